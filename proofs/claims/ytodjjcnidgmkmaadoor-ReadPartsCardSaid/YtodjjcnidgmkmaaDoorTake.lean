/- Walks: read.Take, read.Fail; the reference's Take; read.Add, the reference's Add; ints. -/
import Derived.Test.YtodjjcnidgmkmaaDoorPart
namespace Go.Proofs.YtodjjcnidgmkmaaDoor
open Go.RowKit
set_option linter.unusedVariables false
set_option linter.unusedSimpArgs false
theorem part_bad (g : Value) (lim : Int) (A : Option Addr) (n c : Nat) (l : List It) (w : World) {ok : Nat → Prop} (hr : Rd w ok 4 A n (flat itc l)) (hn : n ≤ 1000000) (hm : quMay lim l = false) :
    Calls Tryd.prog 24 #[quA lim A n c, g] w (PartPost w 0 [] []) := by
  have hq := quMay_any lim A n c l _ ((hr.alloc (.cells #[.int .i64 lim, .slice A n c] 30)).alloc (.cells #[.int .i64 0, .slice none 0 0] 30)) hn
  rw [hm] at hq
  have Hq := Lib.hid hq
  clear hm hq
  unfold quA at *
  have hb1 : Bx ((w.alloc (.cells #[.int .i64 lim, .slice A n c] 30)).alloc (.cells #[.int .i64 0, .slice none 0 0] 30)) (w.heap.size + 1) #[.int .i64 0, .slice none 0 0] := Bx.new _ _ _ (by simp)
  go_enter Tryd.func24, Tryd.ntmps24
  go_wp2_with fail
  refine Hq.out.mono ?_
  rintro e w1 ⟨rfl, hb⟩
  replace hb1 := hb1.below hb
  have hbe : Below w.heap.size w w1 := (((Below.refl _ _).alloc (Nat.le_refl _) _).alloc (by simp) _).trans (hb.mono (by simp; omega))
  have k5 : w1.cell? ⟨w.heap.size + 1, 0, none⟩ = some (.int .i64 0) := hb1.c 0
  have k6 : w1.cell? ⟨w.heap.size + 1, 1, none⟩ = some (.slice none 0 0) := hb1.c 1
  have k7 : w1.frozen? ⟨w.heap.size + 1, 0, none⟩ = false := hb1.f 0
  have k8 : w1.frozen? ⟨w.heap.size + 1, 1, none⟩ = false := hb1.f 1
  clear hb hb1
  go_wp2_with fail
  refine bodyPost_ret (by simp [results, Tryd.results24, go_sem, k5, k6]; rfl) rfl ?_
  exact ⟨none, 0, 0, none, 0, 0, rfl, Rd.none_, Rd.none_, (hbe.setCell (by show w.heap.size ≤ w.heap.size + 1; omega) _).setCell (by show w.heap.size ≤ w.heap.size + 1; omega) _⟩
set_option maxHeartbeats 800000 in
theorem take_good (lim : Int) (A : Option Addr) (n c : Nat) (l : List It) (t h a : Int) (w : World) {ok : Nat → Prop} (hr : Rd w ok 4 A n (flat itc l)) (hn : n ≤ 1000000) (lim' : Int) (l' : List It) (zs : List Int)
    (hm : (quMay lim l = true ∧ lim' = lim ∧ l' = leftOf (isTake t h a) l ∧ zs = outOf (isTake t h a) l) ∨ (quMay lim l = false ∧ lim' = 0 ∧ l' = [] ∧ zs = [])) :
    Calls Tryd.prog 11 #[quA lim A n c, .int .i64 t, .int .i64 h, .int .i64 a] w (PartPost w lim' l' zs) := by
  obtain ⟨W0, hW0⟩ : ∃ W0, W0 = ((((w.alloc (.cells #[.int .i64 lim, .slice A n c] 30)).alloc (.cells #[.int .i64 t] 3)).alloc (.cells #[.int .i64 h] 3)).alloc (.cells #[.int .i64 a] 3)).alloc (.cells #[.int .i64 0, .slice none 0 0] 30) := ⟨_, rfl⟩
  have b1 : Bx W0 (w.heap.size + 1) #[.int .i64 t] := by subst hW0; exact (((Bx.new _ _ _ (by simp)).alloc _).alloc _).alloc _
  have b2 : Bx W0 (w.heap.size + 2) #[.int .i64 h] := by subst hW0; exact ((Bx.new _ _ _ (by simp)).alloc _).alloc _
  have b3 : Bx W0 (w.heap.size + 3) #[.int .i64 a] := by subst hW0; exact (Bx.new _ _ _ (by simp)).alloc _
  have b4 : Bx W0 (w.heap.size + 4) #[.int .i64 0, .slice none 0 0] := by subst hW0; exact Bx.new _ _ _ (by simp)
  have r0 : Rd W0 ok 4 A n (flat itc l) := by subst hW0; exact ((((hr.alloc _).alloc _).alloc _).alloc _).alloc _
  have hbe : Below w.heap.size w W0 := by subst hW0; exact (((((Below.refl _ _).alloc (Nat.le_refl _) _).alloc (by simp) _).alloc (by simp; omega) _).alloc (by simp; omega) _).alloc (by simp; omega) _
  have hz : w.heap.size + 5 = W0.heap.size := by subst hW0; simp
  have hp : Calls Tryd.prog 24 #[quA lim A n c, .func (.func 25) #[] #[.pointer (some ⟨w.heap.size + 1, 0, none⟩), .pointer (some ⟨w.heap.size + 2, 0, none⟩), .pointer (some ⟨w.heap.size + 3, 0, none⟩)]] W0 (PartPost W0 lim' l' zs) := by
    rcases hm with ⟨hm, rfl, rfl, rfl⟩ | ⟨hm, rfl, rfl, rfl⟩
    · exact partTake_any t h a _ _ _ lim' A n c l W0 r0 hn (fun x W hb => isTake_any t h a x W _ _ _ ((b1.below hb).c 0) ((b2.below hb).c 0) ((b3.below hb).c 0)) hm
    · exact part_bad _ lim A n c l W0 r0 hn hm
  have Hp := Lib.hid hp
  have Hz := Lib.hid hz
  have HW := Lib.hid hW0
  clear hp hm b1 b2 b3 hz hW0 r0
  unfold quA at *
  go_enter Tryd.func11, Tryd.ntmps11
  go_wp2_with fail
  rw [← HW.out]
  refine Hp.out.mono ?_
  rintro e w1 ⟨A1, n1, c1, A2, n2, c2, rfl, r1, r2, hb⟩
  replace b4 := b4.below hb
  have k5 : w1.cell? ⟨w.heap.size + 1 + 1 + 1 + 1, 0, none⟩ = some (.int .i64 0) := b4.c 0
  have k6 : w1.cell? ⟨w.heap.size + 1 + 1 + 1 + 1, 1, none⟩ = some (.slice none 0 0) := b4.c 1
  have k7 : w1.frozen? ⟨w.heap.size + 1 + 1 + 1 + 1, 0, none⟩ = false := b4.f 0
  have k8 : w1.frozen? ⟨w.heap.size + 1 + 1 + 1 + 1, 1, none⟩ = false := b4.f 1
  unfold quA
  replace hbe := hbe.trans (hb.mono hbe.size)
  clear hb b4
  go_wp2_with fail
  refine bodyPost_ret (by simp [results, Tryd.results11, go_sem, k5, k6]; rfl) rfl ?_
  have hz := Hz.out
  refine ⟨A1, _, c1, A2, _, c2, rfl, ?_, ?_, (hbe.setCell (by show w.heap.size ≤ w.heap.size + 4; omega) _).setCell (by show w.heap.size ≤ w.heap.size + 4; omega) _⟩
  · exact ((r1.setCell (by show ¬ W0.heap.size ≤ w.heap.size + 4; omega) _).setCell (by show ¬ W0.heap.size ≤ w.heap.size + 4; omega) _).mono (fun b hb => by omega)
  · exact ((r2.setCell (by show ¬ W0.heap.size ≤ w.heap.size + 4; omega) _).setCell (by show ¬ W0.heap.size ≤ w.heap.size + 4; omega) _).mono (fun b hb => by omega)
set_option maxHeartbeats 800000 in
theorem fail_any (lim : Int) (A : Option Addr) (n c : Nat) (l : List It) (t : Int) (w : World) {ok : Nat → Prop} (hr : Rd w ok 4 A n (flat itc l)) (hn : n ≤ 1000000) (lim' : Int) (l' : List It) (zs : List Int)
    (hm : (quMay lim l = true ∧ lim' = lim ∧ l' = leftOf (isFail t) l ∧ zs = outOf (isFail t) l) ∨ (quMay lim l = false ∧ lim' = 0 ∧ l' = [] ∧ zs = [])) :
    Calls Tryd.prog 13 #[quA lim A n c, .int .i64 t] w (PartPost w lim' l' zs) := by
  obtain ⟨W0, hW0⟩ : ∃ W0, W0 = ((w.alloc (.cells #[.int .i64 lim, .slice A n c] 30)).alloc (.cells #[.int .i64 t] 3)).alloc (.cells #[.int .i64 0, .slice none 0 0] 30) := ⟨_, rfl⟩
  have b1 : Bx W0 (w.heap.size + 1) #[.int .i64 t] := by subst hW0; exact (Bx.new _ _ _ (by simp)).alloc _
  have b4 : Bx W0 (w.heap.size + 2) #[.int .i64 0, .slice none 0 0] := by subst hW0; exact Bx.new _ _ _ (by simp)
  have r0 : Rd W0 ok 4 A n (flat itc l) := by subst hW0; exact ((hr.alloc _).alloc _).alloc _
  have hbe : Below w.heap.size w W0 := by subst hW0; exact (((Below.refl _ _).alloc (Nat.le_refl _) _).alloc (by simp) _).alloc (by simp; omega) _
  have hz : w.heap.size + 3 = W0.heap.size := by subst hW0; simp
  have hp : Calls Tryd.prog 24 #[quA lim A n c, .func (.func 26) #[] #[.pointer (some ⟨w.heap.size + 1, 0, none⟩)]] W0 (PartPost W0 lim' l' zs) := by
    rcases hm with ⟨hm, rfl, rfl, rfl⟩ | ⟨hm, rfl, rfl, rfl⟩
    · exact partFail_any t _ lim' A n c l W0 r0 hn (fun x W hb => isFail_any t x W _ ((b1.below hb).c 0)) hm
    · exact part_bad _ lim A n c l W0 r0 hn hm
  have Hp := Lib.hid hp
  have Hz := Lib.hid hz
  have HW := Lib.hid hW0
  clear hp hm b1 hz hW0 r0
  unfold quA at *
  go_enter Tryd.func13, Tryd.ntmps13
  go_wp2_with fail
  rw [← HW.out]
  refine Hp.out.mono ?_
  rintro e w1 ⟨A1, n1, c1, A2, n2, c2, rfl, r1, r2, hb⟩
  replace b4 := b4.below hb
  have k5 : w1.cell? ⟨w.heap.size + 1 + 1, 0, none⟩ = some (.int .i64 0) := b4.c 0
  have k6 : w1.cell? ⟨w.heap.size + 1 + 1, 1, none⟩ = some (.slice none 0 0) := b4.c 1
  have k7 : w1.frozen? ⟨w.heap.size + 1 + 1, 0, none⟩ = false := b4.f 0
  have k8 : w1.frozen? ⟨w.heap.size + 1 + 1, 1, none⟩ = false := b4.f 1
  unfold quA
  replace hbe := hbe.trans (hb.mono hbe.size)
  clear hb b4
  go_wp2_with fail
  refine bodyPost_ret (by simp [results, Tryd.results13, go_sem, k5, k6]; rfl) rfl ?_
  have hz := Hz.out
  refine ⟨A1, _, c1, A2, _, c2, rfl, ?_, ?_, (hbe.setCell (by show w.heap.size ≤ w.heap.size + 2; omega) _).setCell (by show w.heap.size ≤ w.heap.size + 2; omega) _⟩
  · exact ((r1.setCell (by show ¬ W0.heap.size ≤ w.heap.size + 2; omega) _).setCell (by show ¬ W0.heap.size ≤ w.heap.size + 2; omega) _).mono (fun b hb => by omega)
  · exact ((r2.setCell (by show ¬ W0.heap.size ≤ w.heap.size + 2; omega) _).setCell (by show ¬ W0.heap.size ≤ w.heap.size + 2; omega) _).mono (fun b hb => by omega)
end Go.Proofs.YtodjjcnidgmkmaaDoor
