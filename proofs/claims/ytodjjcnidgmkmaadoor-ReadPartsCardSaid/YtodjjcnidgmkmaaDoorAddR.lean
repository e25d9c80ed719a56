/- Walks: the reference's Add (after read.Add). -/
import Derived.Test.YtodjjcnidgmkmaaDoorAdd
import Derived.Test.YtodjjcnidgmkmaaDoorMayR
import Derived.Test.YtodjjcnidgmkmaaDoorGrow
namespace Go.Proofs.YtodjjcnidgmkmaaDoor
open Go.RowKit
set_option linter.unusedVariables false
set_option linter.unusedSimpArgs false
theorem itr_elem : Elem Tryd.prog 26 (itA ⟨0, 0, 0, 0⟩) 4 32 := by unfold Elem; kernel_rfl
set_option maxHeartbeats 800000 in
theorem addR_bad (lim : Int) (A : Option Addr) (n c : Nat) (l : List It) (x : It) (w : World) {ok : Nat → Prop} (hr : Rd w ok 4 A n (flat itc l)) (hn : n ≤ 1000000) (K : Int)
    (hm : (quMay lim l = false ∧ K = 1) ∨ (quMay lim l = true ∧ itMay x = false ∧ K = 1) ∨ (quMay lim l = true ∧ itMay x = true ∧ ((n : Int) == lim) = true ∧ K = 32)) :
    Calls Tryd.prog 8 #[quA lim A n c, itA x] w (AddPost w 0 [] (.int .i64 K)) := by
  obtain ⟨W0, hW0⟩ : ∃ W0, W0 = ((w.alloc (.cells #[.int .i64 lim, .slice A n c] 24)).alloc (.cells #[.int .i64 x.t, .int .i64 x.r, .int .i64 x.i, .int .i64 x.k] 26)).alloc (.cells #[.int .i64 0, .slice none 0 0] 24) := ⟨_, rfl⟩
  have b0 : Bx W0 w.heap.size #[.int .i64 lim, .slice A n c] := by subst hW0; exact ((Bx.new _ _ _ rfl).alloc _).alloc _
  have b1 : Bx W0 (w.heap.size + 1) #[.int .i64 x.t, .int .i64 x.r, .int .i64 x.i, .int .i64 x.k] := by subst hW0; exact (Bx.new _ _ _ (by simp)).alloc _
  have b2 : Bx W0 (w.heap.size + 2) #[.int .i64 0, .slice none 0 0] := by subst hW0; exact Bx.new _ _ _ (by simp)
  have r0 : Rd W0 ok 4 A n (flat itc l) := by subst hW0; exact ((hr.alloc _).alloc _).alloc _
  have hbe : Below w.heap.size w W0 := by subst hW0; exact (((Below.refl _ _).alloc (Nat.le_refl _) _).alloc (by simp) _).alloc (by simp; omega) _
  have hq := mayR_any lim A n c l W0 r0 hn
  have hx := fun W => itemMay_any x W
  have HW := Lib.hid hW0
  clear hW0
  rcases hm with ⟨hm, rfl⟩ | ⟨hm, hm2, rfl⟩ | ⟨hm, hm2, hge, rfl⟩
  · rw [hm] at hq
    have Hq := Lib.hid hq
    clear hq hm hx
    unfold quA itA at *
    go_enter Tryd.func8, Tryd.ntmps8
    go_wp2_with fail
    rw [← HW.out]
    refine Hq.out.mono ?_
    rintro e w1 ⟨rfl, hb⟩
    replace b2 := b2.below hb
    have k5 : w1.cell? ⟨w.heap.size + 1 + 1, 0, none⟩ = some (.int .i64 0) := b2.c 0
    have k6 : w1.cell? ⟨w.heap.size + 1 + 1, 1, none⟩ = some (.slice none 0 0) := b2.c 1
    have k7 : w1.frozen? ⟨w.heap.size + 1 + 1, 0, none⟩ = false := b2.f 0
    have k8 : w1.frozen? ⟨w.heap.size + 1 + 1, 1, none⟩ = false := b2.f 1
    replace hbe := hbe.trans (hb.mono hbe.size)
    clear hb b0 b1 b2
    go_wp2_with fail
    refine bodyPost_ret (by simp [results, Tryd.results8, go_sem, k5, k6]; rfl) rfl ?_
    exact ⟨none, 0, 0, rfl, Rd.none_, (hbe.setCell (by show w.heap.size ≤ w.heap.size + 2; omega) _).setCell (by show w.heap.size ≤ w.heap.size + 2; omega) _⟩
  · rw [hm] at hq
    rw [hm2] at hx
    have Hq := Lib.hid hq
    have Hx := Lib.hid hx
    clear hq hm hx hm2
    unfold quA itA at *
    go_enter Tryd.func8, Tryd.ntmps8
    go_wp2_with fail
    rw [← HW.out]
    refine Hq.out.mono ?_
    rintro e w1 ⟨rfl, hb⟩
    replace b2 := b2.below hb
    replace b1 := b1.below hb
    have j0 := b1.c 0
    have j1 := b1.c 1
    have j2 := b1.c 2
    have j3 := b1.c 3
    simp at j0 j1 j2 j3
    replace hbe := hbe.trans (hb.mono hbe.size)
    clear hb b0 b1
    go_wp2_with fail
    refine (Hx.out _).mono ?_
    rintro e w2 ⟨rfl, hb⟩
    replace b2 := b2.below hb
    have k5 : w2.cell? ⟨w.heap.size + 1 + 1, 0, none⟩ = some (.int .i64 0) := b2.c 0
    have k6 : w2.cell? ⟨w.heap.size + 1 + 1, 1, none⟩ = some (.slice none 0 0) := b2.c 1
    have k7 : w2.frozen? ⟨w.heap.size + 1 + 1, 0, none⟩ = false := b2.f 0
    have k8 : w2.frozen? ⟨w.heap.size + 1 + 1, 1, none⟩ = false := b2.f 1
    replace hbe := hbe.trans (hb.mono hbe.size)
    clear hb b2 j0 j1 j2 j3
    go_wp2_with fail
    refine bodyPost_ret (by simp [results, Tryd.results8, go_sem, k5, k6]; rfl) rfl ?_
    exact ⟨none, 0, 0, rfl, Rd.none_, (hbe.setCell (by show w.heap.size ≤ w.heap.size + 2; omega) _).setCell (by show w.heap.size ≤ w.heap.size + 2; omega) _⟩
  · rw [hm] at hq
    rw [hm2] at hx
    have Hq := Lib.hid hq
    have Hx := Lib.hid hx
    clear hq hm hx hm2
    unfold quA itA at *
    go_enter Tryd.func8, Tryd.ntmps8
    go_wp2_with fail
    rw [← HW.out]
    refine Hq.out.mono ?_
    rintro e w1 ⟨rfl, hb⟩
    replace b2 := b2.below hb
    replace b1 := b1.below hb
    replace b0 := b0.below hb
    have j0 := b1.c 0
    have j1 := b1.c 1
    have j2 := b1.c 2
    have j3 := b1.c 3
    simp at j0 j1 j2 j3
    replace hbe := hbe.trans (hb.mono hbe.size)
    clear hb b1
    go_wp2_with fail
    refine (Hx.out _).mono ?_
    rintro e w2 ⟨rfl, hb⟩
    replace b2 := b2.below hb
    replace b0 := b0.below hb
    have k3 : w2.cell? ⟨w.heap.size, 0, none⟩ = some (.int .i64 lim) := b0.c 0
    have k4 : w2.cell? ⟨w.heap.size, 1, none⟩ = some (.slice A n c) := b0.c 1
    have k5 : w2.cell? ⟨w.heap.size + 1 + 1, 0, none⟩ = some (.int .i64 0) := b2.c 0
    have k6 : w2.cell? ⟨w.heap.size + 1 + 1, 1, none⟩ = some (.slice none 0 0) := b2.c 1
    have k7 : w2.frozen? ⟨w.heap.size + 1 + 1, 0, none⟩ = false := b2.f 0
    have k8 : w2.frozen? ⟨w.heap.size + 1 + 1, 1, none⟩ = false := b2.f 1
    replace hbe := hbe.trans (hb.mono hbe.size)
    clear hb b2 b0 j0 j1 j2 j3
    go_wp2_with fail
    refine bodyPost_ret (by simp [results, Tryd.results8, go_sem, k5, k6]; rfl) rfl ?_
    exact ⟨none, 0, 0, rfl, Rd.none_, (hbe.setCell (by show w.heap.size ≤ w.heap.size + 2; omega) _).setCell (by show w.heap.size ≤ w.heap.size + 2; omega) _⟩
set_option maxHeartbeats 1600000 in
theorem addR_good (lim : Int) (A : Option Addr) (n c : Nat) (l : List It) (x : It) (w : World) {ok : Nat → Prop} (hr : Rd w ok 4 A n (flat itc l)) (hn : n ≤ 1000000)
    (hnc : n ≤ c) (hA : A = none → c = 0) (hm : quMay lim l = true) (hm2 : itMay x = true) (hlt : (n : Int) < lim) :
    Calls Tryd.prog 8 #[quA lim A n c, itA x] w (AddPost w lim (l ++ [x]) (.int .i64 0)) := by
  have hr' := hr.lt (by omega)
  obtain ⟨W0, hW0⟩ : ∃ W0, W0 = ((w.alloc (.cells #[.int .i64 lim, .slice A n c] 24)).alloc (.cells #[.int .i64 x.t, .int .i64 x.r, .int .i64 x.i, .int .i64 x.k] 26)).alloc (.cells #[.int .i64 0, .slice none 0 0] 24) := ⟨_, rfl⟩
  have b0 : Bx W0 w.heap.size #[.int .i64 lim, .slice A n c] := by subst hW0; exact ((Bx.new _ _ _ rfl).alloc _).alloc _
  have b1 : Bx W0 (w.heap.size + 1) #[.int .i64 x.t, .int .i64 x.r, .int .i64 x.i, .int .i64 x.k] := by subst hW0; exact (Bx.new _ _ _ (by simp)).alloc _
  have F0 : Fr W0 (w.heap.size + 2) 2 W0 := by subst hW0; exact Fr.new (by simp) rfl
  have r0 : Rd W0 (· < w.heap.size) 4 A n (flat itc l) := by subst hW0; exact (((hr'.mono fun b hb => hb.2).alloc _).alloc _).alloc _
  have hbe : Below w.heap.size w W0 := by subst hW0; exact (((Below.refl _ _).alloc (Nat.le_refl _) _).alloc (by simp) _).alloc (by simp; omega) _
  have hz : W0.heap.size = w.heap.size + 3 := by subst hW0; simp
  have hbe0 := hbe
  have hq := mayR_any lim A n c l W0 r0 hn
  have hx := fun W => itemMay_any x W
  rw [hm] at hq
  rw [hm2] at hx
  have u0 : W0.cell? ⟨w.heap.size, 0, none⟩ = some (.int .i64 lim) := b0.c 0
  have u1 : W0.cell? ⟨w.heap.size, 1, none⟩ = some (.slice A n c) := b0.c 1
  have u2 : W0.cell? ⟨w.heap.size + 1, 0, none⟩ = some (.int .i64 x.t) := b1.c 0
  have u3 : W0.cell? ⟨w.heap.size + 1, 1, none⟩ = some (.int .i64 x.r) := b1.c 1
  have u4 : W0.cell? ⟨w.heap.size + 1, 2, none⟩ = some (.int .i64 x.i) := b1.c 2
  have u5 : W0.cell? ⟨w.heap.size + 1, 3, none⟩ = some (.int .i64 x.k) := b1.c 3
  have sof : ∀ W, Fr W0 (w.heap.size + 2) 2 W → (Fr W0 (w.heap.size + 2) 2 W ∧ W.cell? ⟨w.heap.size, 0, none⟩ = some (.int .i64 lim) ∧ W.cell? ⟨w.heap.size, 1, none⟩ = some (.slice A n c) ∧ W.cell? ⟨w.heap.size + 1, 0, none⟩ = some (.int .i64 x.t) ∧ W.cell? ⟨w.heap.size + 1, 1, none⟩ = some (.int .i64 x.r) ∧ W.cell? ⟨w.heap.size + 1, 2, none⟩ = some (.int .i64 x.i) ∧ W.cell? ⟨w.heap.size + 1, 3, none⟩ = some (.int .i64 x.k) ∧ W.cell? ⟨w.heap.size + 1 + 1, 0, none⟩ = some (peek W (w.heap.size + 2) 0) ∧ W.cell? ⟨w.heap.size + 1 + 1, 1, none⟩ = some (peek W (w.heap.size + 2) 1) ∧ W.frozen? ⟨w.heap.size + 1 + 1, 0, none⟩ = false ∧ W.frozen? ⟨w.heap.size + 1 + 1, 1, none⟩ = false) :=
    fun W F2 => ⟨F2, F2.cell (by omega) u0, F2.cell (by omega) u1, F2.cell (by omega) u2, F2.cell (by omega) u3, F2.cell (by omega) u4, F2.cell (by omega) u5, F2.pk (by omega), F2.pk (by omega), F2.fz _, F2.fz _⟩
  obtain ⟨A9, e9, r9, z9⟩ : ∃ A9, (∀ W, (Instr.sliceAt 22 (.slice A n c) none (some (.int .i64 (n : Int))) (some (.int .i64 (n : Int)))).run Tryd.prog W = .ok (.slice A9 n n) W) ∧ Rd W0 (· < w.heap.size) 4 A9 n (flat itc l) ∧ (A9 = none → n = 0) :=
    ⟨_, fun W => run_slice_hm' (P := Tryd.prog) 22 Tryd.underlying22 (size := 4) (by kernel_rfl) A n c n n (Nat.le_refl _) hnc W, r0.hm n, fun h => by
      split at h
      · assumption
      · have := hA (by simpa using h); omega⟩
  have HW := Lib.hid hW0
  have Hq := Lib.hid hq
  have Hx := Lib.hid hx
  have H1 := Lib.hid (itc_one [x])
  have H1l := Lib.hid (itc_one l)
  have Hz := Lib.hid hz
  clear hW0 hq hx hm hm2 b0 b1 u0 u1 u2 u3 u4 u5 hr' hz
  unfold quA itA at *
  go_enter Tryd.func8, Tryd.ntmps8
  go_wp2_with fail
  rw [← HW.out]
  refine Hq.out.mono ?_
  rintro e w1 ⟨rfl, hb⟩
  have F1 := F0.below hb
  have s1 := sof _ F1
  replace hbe := hbe.trans (hb.mono hbe.size)
  clear hb
  go_split_ands
  go_wp2_with fail
  refine (Hx.out _).mono ?_
  rintro e w2 ⟨rfl, hb⟩
  have F2 := F1.below hb
  replace hbe := hbe.trans (hb.mono hbe.size)
  have s2 := sof _ F2
  clear hb
  go_split_ands
  go_wp2_with fail
  skip
  have hz0 := F2.gr.size
  have hn0 : Rd ((w2.alloc (.cells #[.int .i64 x.t, .int .i64 x.r, .int .i64 x.i, .int .i64 x.k] 26)).drew) T 4 (some ⟨w2.heap.size, 0, none⟩) 1 (flat itc [x]) := (Rd.blit rfl).any
  go_region_held3 (fun W => Fr W0 (w.heap.size + 2) 2 W ∧ W.cell? ⟨w.heap.size, 0, none⟩ = some (.int .i64 lim) ∧ W.cell? ⟨w.heap.size, 1, none⟩ = some (.slice A n c) ∧ W.cell? ⟨w.heap.size + 1, 0, none⟩ = some (.int .i64 x.t) ∧ W.cell? ⟨w.heap.size + 1, 1, none⟩ = some (.int .i64 x.r) ∧ W.cell? ⟨w.heap.size + 1, 2, none⟩ = some (.int .i64 x.i) ∧ W.cell? ⟨w.heap.size + 1, 3, none⟩ = some (.int .i64 x.k) ∧ W.cell? ⟨w.heap.size + 1 + 1, 0, none⟩ = some (peek W (w.heap.size + 2) 0) ∧ W.cell? ⟨w.heap.size + 1 + 1, 1, none⟩ = some (peek W (w.heap.size + 2) 1) ∧ W.frozen? ⟨w.heap.size + 1 + 1, 0, none⟩ = false ∧ W.frozen? ⟨w.heap.size + 1 + 1, 1, none⟩ = false) ((refine sof _ ?_; first | exact F2.drew | (go_split_ands; exact Fr.below (by assumption) (by assumption)) | (go_split_ands; exact Fr.alloc (by assumption) _) | (go_split_ands; exact Fr.grown (by assumption) hg4 hrow4) | (go_split_ands; exact Fr.set (Fr.set (by assumption) _ _) _ _))) (first | (refine step_append_full (news := flat itc [x]) _ Tryd.underlying22 itr_elem rfl (by omega) rfl rfl rfl (Fr.rd (k := 2) (by go_split_ands; assumption) r9 (by omega)) z9 rfl (Rd.blit rfl).any (by omega) H1.out (by omega) (by omega) rfl (flat_append _ _).symm ?_; intro A4 c4 w4 hown4 hb4; have F4 : Fr W0 (w.heap.size + 2) 2 w4 := Fr.below (by go_split_ands; assumption) hb4))
  all_goals
    have p0 : w4.cell? ⟨w.heap.size + 1 + 1, 0, none⟩ = some (peek w4 (w.heap.size + 2) 0) := F4.pk (by omega)
    have p1 : w4.cell? ⟨w.heap.size + 1 + 1, 1, none⟩ = some (peek w4 (w.heap.size + 2) 1) := F4.pk (by omega)
    have FF := Fr.set (Fr.set F4 0 (.int .i64 lim)) 1 (.slice A4 (n + 1) c4)
    have hz := Hz.out
    go_wp2_with fail
    refine bodyPost_ret (by simp [results, Tryd.results8, go_sem, p0, p1]; rfl) rfl ?_
    refine ⟨A4, _, c4, rfl, ?_, hbe0.trans (FF.to_below (by omega))⟩
    have r4 := (Rd.of_own hown4).mono (ok' := (W0.heap.size ≤ ·)) (fun b hb => by simp at hb; omega)
    refine ((r4.setCell (p := ⟨w.heap.size + 1 + 1, 0, none⟩) ?_ _).setCell (p := ⟨w.heap.size + 1 + 1, 1, none⟩) ?_ _).mono (fun b hb => ?_)
    · show ¬ W0.heap.size ≤ w.heap.size + 1 + 1; omega
    · show ¬ W0.heap.size ≤ w.heap.size + 1 + 1; omega
    · omega
end Go.Proofs.YtodjjcnidgmkmaaDoor
