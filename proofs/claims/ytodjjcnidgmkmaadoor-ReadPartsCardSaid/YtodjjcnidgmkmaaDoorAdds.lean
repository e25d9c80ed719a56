/- Walk of tollbarlaw14.ReadAdds. -/
import Derived.Test.YtodjjcnidgmkmaaDoorAddR
import Derived.Test.YtodjjcnidgmkmaaDoorSame
import Derived.Test.YtodjjcnidgmkmaaDoorSure
import Derived.Test.YtodjjcnidgmkmaaDoorNum
import Derived.Deep.DeepCutAuto
namespace Go.Proofs.YtodjjcnidgmkmaaDoor
open Go.RowKit
set_option linter.unusedVariables false
set_option linter.unusedSimpArgs false
def addK (lim : Int) (l : List It) (x : It) : Int := if quMay lim l then (if itMay x then (if lim ≤ (l.length : Int) then 32 else 0) else 1) else 1
def addLim (lim : Int) (l : List It) (x : It) : Int := if addK lim l x = 0 then lim else 0
def addL (lim : Int) (l : List It) (x : It) : List It := if addK lim l x = 0 then l ++ [x] else []
theorem add_cases (lim : Int) (l : List It) (x : It) : (quMay lim l = false ∧ addK lim l x = 1) ∨ (quMay lim l = true ∧ itMay x = false ∧ addK lim l x = 1) ∨ (quMay lim l = true ∧ itMay x = true ∧ lim ≤ (l.length : Int) ∧ addK lim l x = 32) ∨ (quMay lim l = true ∧ itMay x = true ∧ (l.length : Int) < lim ∧ addK lim l x = 0) := by
  unfold addK
  rcases Bool.eq_false_or_eq_true (quMay lim l) with h | h
  · rcases Bool.eq_false_or_eq_true (itMay x) with h2 | h2
    · by_cases h3 : lim ≤ (l.length : Int)
      · right; right; left; simp [h, h2, h3]
      · right; right; right; simp [h, h2, h3]; omega
    · right; left; simp [h, h2]
  · left; simp [h]
theorem quMay_len {lim : Int} {l : List It} (h : quMay lim l = true) : (l.length : Int) ≤ lim := by
  unfold quMay at h
  simp only [Bool.and_eq_true, decide_eq_true_eq] at h
  omega
theorem add_any (lim : Int) (A : Option Addr) (n c : Nat) (l : List It) (x : It) (w : World) {ok : Nat → Prop} (hr : Rd w ok 4 A n (flat itc l)) (hn : n ≤ 1000000) :
    Calls Tryd.prog 6 #[quA lim A n c, itA x] w (AddPost w (addLim lim l x) (addL lim l x) (errV (addK lim l x))) := by
  have hl := hr.flen itc_len (by omega)
  rcases add_cases lim l x with ⟨h1, hk⟩ | ⟨h1, h2, hk⟩ | ⟨h1, h2, h3, hk⟩ | ⟨h1, h2, h3, hk⟩
  · rw [addLim, addL, hk]
    exact add_bad lim A n c l x w hr hn 1 (.inl ⟨h1, rfl⟩)
  · rw [addLim, addL, hk]
    exact add_bad lim A n c l x w hr hn 1 (.inr (.inl ⟨h1, h2, rfl⟩))
  · rw [addLim, addL, hk]
    exact add_bad lim A n c l x w hr hn 32 (.inr (.inr ⟨h1, h2, by omega, rfl⟩))
  · rw [addLim, addL, hk]
    exact add_good lim A n c l x w hr hn h1 h2 (by omega)
theorem addR_any (lim : Int) (A : Option Addr) (n c : Nat) (l : List It) (x : It) (w : World) {ok : Nat → Prop} (hr : Rd w ok 4 A n (flat itc l)) (hn : n ≤ 1000000) (hnc : n ≤ c) (hA : A = none → c = 0) :
    Calls Tryd.prog 8 #[quA lim A n c, itA x] w (AddPost w (addLim lim l x) (addL lim l x) (.int .i64 (addK lim l x))) := by
  have hl := hr.flen itc_len (by omega)
  rcases add_cases lim l x with ⟨h1, hk⟩ | ⟨h1, h2, hk⟩ | ⟨h1, h2, h3, hk⟩ | ⟨h1, h2, h3, hk⟩
  · rw [addLim, addL, hk]
    exact addR_bad lim A n c l x w hr hn 1 (.inl ⟨h1, rfl⟩)
  · rw [addLim, addL, hk]
    exact addR_bad lim A n c l x w hr hn 1 (.inr (.inl ⟨h1, h2, rfl⟩))
  · have := quMay_len h1
    rw [addLim, addL, hk]
    exact addR_bad lim A n c l x w hr hn 32 (.inr (.inr ⟨h1, h2, by simp; omega, rfl⟩))
  · rw [addLim, addL, hk]
    exact addR_good lim A n c l x w hr hn hnc hA h1 h2 (by omega)
theorem addL_len (lim : Int) (l : List It) (x : It) : (addL lim l x).length ≤ l.length + 1 := by
  unfold addL
  split <;> simp
theorem adds_far (lim : Int) (A : Option Addr) (n c : Nat) (x : It) (w : World) (h : 200 < (n : Int)) :
    Calls Tryd.prog 3 #[.agg #[.int .i64 lim, .slice A n c], itA x] w (YesPost w) := by
  unfold itA
  go_enter Tryd.func3, Tryd.ntmps3
  go_wp2_with fail
  refine (sure_any _).mono ?_
  rintro e w4 ⟨rfl, hb4⟩
  go_wp2_with fail
  go_ret
  exact ⟨rfl, (((Below.refl _ _).alloc (Nat.le_refl _) _).alloc (by simp) _).trans (hb4.mono (by simp; omega))⟩
set_option maxHeartbeats 3200000 in
theorem adds_walk (lim : Int) (A : Option Addr) (n c : Nat) (l : List It) (x : It) (w : World) {ok : Nat → Prop} (hg : ErrT w) (hr : Rd w ok 4 A n (flat itc l)) (h1 : (n : Int) ≤ 200) (hnc : n ≤ c) (hA : A = none → c = 0) :
    Calls Tryd.prog 3 #[.agg #[.int .i64 lim, .slice A n c], itA x] w (YesPost w) := by
  have hln := hr.flen itc_len (by omega)
  have hal := addL_len lim l x
  rw [hln] at hal
  obtain ⟨W0, hW0⟩ : ∃ W0, W0 = (w.alloc (.cells #[.int .i64 lim, .slice A n c] 24)).alloc (.cells #[.int .i64 x.t, .int .i64 x.r, .int .i64 x.i, .int .i64 x.k] 26) := ⟨_, rfl⟩
  have X0 : Bx W0 w.heap.size #[.int .i64 lim, .slice A n c] := by subst hW0; exact (Bx.new _ _ _ rfl).alloc _
  have X1 : Bx W0 (w.heap.size + 1) #[.int .i64 x.t, .int .i64 x.r, .int .i64 x.i, .int .i64 x.k] := by subst hW0; exact Bx.new _ _ _ (by simp)
  have r0 : Rd W0 ok 4 A n (flat itc l) := by subst hW0; exact (hr.alloc _).alloc _
  have hbe : Below w.heap.size w W0 := by subst hW0; exact ((Below.refl _ _).alloc (Nat.le_refl _) _).alloc (by simp) _
  have HW := Lib.hid hW0
  have Hg := Lib.hid hg
  have Hal := Lib.hid hal
  clear hW0 hg hln hal
  have sof : ∀ W, Below W0.heap.size W0 W → (Below W0.heap.size W0 W ∧ W.cell? ⟨w.heap.size, 0, none⟩ = some (.int .i64 lim) ∧ W.cell? ⟨w.heap.size, 1, none⟩ = some (.slice A n c) ∧ W.cell? ⟨w.heap.size + 1, 0, none⟩ = some (.int .i64 x.t) ∧ W.cell? ⟨w.heap.size + 1, 1, none⟩ = some (.int .i64 x.r) ∧ W.cell? ⟨w.heap.size + 1, 2, none⟩ = some (.int .i64 x.i) ∧ W.cell? ⟨w.heap.size + 1, 3, none⟩ = some (.int .i64 x.k)) := fun W hb => ⟨hb, (X0.below hb).c 0, (X0.below hb).c 1, (X1.below hb).c 0, (X1.below hb).c 1, (X1.below hb).c 2, (X1.below hb).c 3⟩
  unfold itA
  go_enter Tryd.func3, Tryd.ntmps3
  go_upto_region 3 with (fail)
  rw [← HW.out]
  go_cut [5, 6] (fun s5 s6 W => ∃ g A1 n1 c1, s5 = .pointer (some ⟨g, 0, none⟩) ∧ s6 = errV (addK lim l x) ∧ Bx W g #[.int .i64 (addLim lim l x), .slice A1 n1 c1] ∧ Rd W T 4 A1 n1 (flat itc (addL lim l x)) ∧ Below W0.heap.size W0 W)
  case first =>
    go_region_held3 (fun W => Below W0.heap.size W0 W ∧ W.cell? ⟨w.heap.size, 0, none⟩ = some (.int .i64 lim) ∧ W.cell? ⟨w.heap.size, 1, none⟩ = some (.slice A n c) ∧ W.cell? ⟨w.heap.size + 1, 0, none⟩ = some (.int .i64 x.t) ∧ W.cell? ⟨w.heap.size + 1, 1, none⟩ = some (.int .i64 x.r) ∧ W.cell? ⟨w.heap.size + 1, 2, none⟩ = some (.int .i64 x.i) ∧ W.cell? ⟨w.heap.size + 1, 3, none⟩ = some (.int .i64 x.k)) ((refine sof _ ?_; first | exact (Below.refl _ _).drew | (go_split_ands; exact Below.trans (by assumption) (Below.mono (by assumption) (Below.size (by assumption)))) | (go_split_ands; exact Below.alloc (by assumption) (Below.size (by assumption)) _) | (go_split_ands; exact below_realloc (by assumption) z2b z2b _) | (go_split_ands; refine Below.setCell ?_ (by first | exact Nat.le_refl _ | exact z1b | exact z2b) _; refine Below.setCell ?_ (by first | exact Nat.le_refl _ | exact z1b | exact z2b) _; assumption))) (first
      | (go_at_call 7; refine (give_any lim A n c l _ (r0.below (by go_split_ands; assumption)) (by omega)).mono ?_; rintro e w1 ⟨A1, n1, c1, rfl, r1, hb1⟩; have z1b : W0.heap.size ≤ w1.heap.size := Nat.le_trans (Below.size (by go_split_ands; assumption)) hb1.size; try (have X7 := ((Bx.new W0 #[.int .i64 0, .slice none 0 0] 30 rfl).drew.below hb1)))
      | (go_at_call 6; refine (add_any lim A1 n1 c1 l x _ (by first | exact r1 | exact r1.alloc _) (by have := r1.flen itc_len (by omega); have := (r0.flen itc_len (by omega)); omega)).mono ?_; rintro e w2 ⟨A2, n2, c2, rfl, r2, hb2⟩; unfold quA; have z2b : W0.heap.size ≤ w2.heap.size := Nat.le_trans (Below.size (by go_split_ands; assumption)) hb2.size; first | (have X8 := X7.below hb2; obtain ⟨x8, x9, x8f, x9f⟩ := X8.c2) | (have X8 := (Bx.new w1 #[.int .i64 0, .slice none 0 0] 30 rfl).below hb2; obtain ⟨x8, x9, x8f, x9f⟩ := X8.c2) | (have hcc : Below w1.heap.size w1 w2 := hb2)))
    all_goals
      go_wp2_with fail
      go_meet
      case rel =>
        first
          | exact ⟨w2.heap.size, A2, n2, c2, rfl, rfl, Bx.new _ _ _ rfl, r2.any.alloc _, by go_split_ands; assumption⟩
          | (refine ⟨_, A2, n2, c2, rfl, rfl, (X8.set 0 _).set 1 _, ?_, by go_split_ands; assumption⟩
             refine ((r2.setCell ?_ _).setCell ?_ _).any
             · show ¬ _ ≤ w1.heap.size; simp
             · show ¬ _ ≤ w1.heap.size; simp)
          | (refine ⟨_, A2, n2, c2, rfl, rfl, (X8.set 0 _).set 1 _, ?_, by go_split_ands; assumption⟩
             refine ((r2.setCell ?_ _).setCell ?_ _).any
             · show ¬ w1.heap.size ≤ W0.heap.size; have := hb1.size; simp at this; omega
             · show ¬ w1.heap.size ≤ W0.heap.size; have := hb1.size; simp at this; omega)
  case rest =>
    obtain ⟨g, A1, n1, c1, rfl, rfl, X5, r5, hbc⟩ := hcut
    have s1 := sof _ hbc
    replace hbe := hbe.trans (hbc.mono hbe.size)
    have r6 := r0.below hbc
    have hn1 : n1 ≤ 1000000 := by have := r5.flen itc_len (by omega); have := Hal.out; omega
    have Hs := Lib.hid s1
    clear s1
    obtain ⟨-, u0, u1, u2, u3, u4, u5⟩ := Hs.out
    clear X0 X1 r0 hbc sof HW
    have haddR := addR_any lim A n c l x wc r6 (by omega) hnc hA
    have HaddR := Lib.hid haddR
    clear haddR
    unfold quA itA at HaddR
    go_wp2_with fail
    refine HaddR.out.mono ?_
    rintro e w3 ⟨A3, n3, c3, rfl, r7, hb3⟩
    replace X5 := (X5.below hb3).alloc (.cells #[.int .i64 (addLim lim l x), .slice A3 n3 c3] 24)
    replace r5 := (r5.below hb3).alloc (.cells #[.int .i64 (addLim lim l x), .slice A3 n3 c3] 24)
    replace r7 := r7.alloc (.cells #[.int .i64 (addLim lim l x), .slice A3 n3 c3] 24)
    replace hbe := hbe.trans (hb3.mono hbe.size)
    obtain ⟨x8, x9, -, -⟩ := X5.c2
    have hsm := same_any (addLim lim l x) A1 n1 c1 A3 n3 c3 _ _ r5 r7 hn1
    have Hsm := Lib.hid hsm
    unfold quA at *
    clear hsm hb3 HaddR u0 u1 u2 u3 u4 u5 r5 r6 r7 X5 Hs
    go_wp2_with fail
    refine Hsm.out.mono ?_
    rintro e w4 ⟨rfl, hb4⟩
    replace hbe := (hbe.alloc hbe.size (.cells #[.int .i64 (addLim lim l x), .slice A3 n3 c3] 24)).trans (hb4.mono (hbe.alloc hbe.size _).size)
    clear hb4 x8 x9
    go_wp2_with fail
    refine (num_any (addK lim l x) w4 (Hg.out.below hbe)).mono ?_
    rintro e w5 ⟨rfl, hb5⟩
    replace hbe := hbe.trans (hb5.mono hbe.size)
    clear hb5
    go_wp2_with fail
    refine (sure_any _).mono ?_
    rintro e w6 ⟨rfl, hb6⟩
    go_wp2_with fail
    go_ret
    exact ⟨rfl, hbe.trans (hb6.mono hbe.size)⟩
end Go.Proofs.YtodjjcnidgmkmaaDoor
