/- Walk of tollbarlaw14.ReadRounds. -/
import Derived.Test.YtodjjcnidgmkmaaRoundsR
import Derived.Test.YtodjjcnidgmkmaaSure
namespace Go.Proofs.Ytodjjcnidgmkmaa
open Go.RowKit
set_option linter.unusedVariables false
set_option linter.unusedSimpArgs false
theorem ranks_len (term lim : Int) (l : List It) : (ranks term lim l).length ≤ l.length := by
  unfold ranks
  split
  · have h1 := roundsOf_len term l
    have e : ((roundsOf term l).mergeSort fun x y => decide (x ≤ y)).length = (roundsOf term l).length := by simp
    have h2 : (Lib.compact ((roundsOf term l).mergeSort fun x y => decide (x ≤ y))).length ≤ (roundsOf term l).length := by
      rw [← e]
      unfold Lib.compact Lib.compactUpTo
      rw [List.length_map]
      have := List.length_filter_le (Lib.keeps ((roundsOf term l).mergeSort fun x y => decide (x ≤ y)).toArray) (List.range ((roundsOf term l).mergeSort fun x y => decide (x ≤ y)).length)
      simpa using this
    omega
  · simp
theorem roundsW_far (lim : Int) (A : Option Addr) (n c : Nat) (term : Int) (w : World) (h : 200 < (n : Int)) :
    Calls Try.prog 5 #[.agg #[.int .i64 lim, .slice A n c], .int .i64 term] w (YesPost w) := by
  go_enter Try.func5, Try.ntmps5
  go_wp2_with fail
  refine (sure_any _).mono ?_
  rintro e w4 ⟨rfl, hb4⟩
  go_wp2_with fail
  go_ret
  exact ⟨rfl, ((Below.refl _ _).alloc (Nat.le_refl _) _).trans (hb4.mono (by simp))⟩
set_option maxHeartbeats 1600000 in
theorem roundsW_walk (lim : Int) (A : Option Addr) (n c : Nat) (l : List It) (term : Int) (w : World) {ok : Nat → Prop} (hr : Rd w ok 4 A n (flat itc l)) (h1 : (n : Int) ≤ 200) :
    Calls Try.prog 5 #[.agg #[.int .i64 lim, .slice A n c], .int .i64 term] w (YesPost w) := by
  obtain ⟨W0, hW0⟩ : ∃ W0, W0 = w.alloc (.cells #[.int .i64 lim, .slice A n c] 24) := ⟨_, rfl⟩
  have X0 : Bx W0 w.heap.size #[.int .i64 lim, .slice A n c] := by subst hW0; exact Bx.new _ _ _ rfl
  have r0 : Rd W0 ok 4 A n (flat itc l) := by subst hW0; exact hr.alloc _
  have hbe : Below w.heap.size w W0 := by subst hW0; exact (Below.refl _ _).alloc (Nat.le_refl _) _
  have HW := Lib.hid hW0
  clear hW0
  have hln := r0.flen itc_len (by omega)
  have sof : ∀ W, Below W0.heap.size W0 W → (Below W0.heap.size W0 W ∧ W.cell? ⟨w.heap.size, 0, none⟩ = some (.int .i64 lim) ∧ W.cell? ⟨w.heap.size, 1, none⟩ = some (.slice A n c)) := fun W hb => ⟨hb, (X0.below hb).c 0, (X0.below hb).c 1⟩
  go_enter Try.func5, Try.ntmps5
  go_upto_region 3 with (fail)
  rw [← HW.out]
  obtain ⟨S, hS⟩ : ∃ S, S = ranks term lim l := ⟨_, rfl⟩
  have HS := Lib.hid hS
  have hSb := ranks_len term lim l
  rw [← hS] at hSb
  clear hS
  have hyes : ∀ (W : World) (A1 A2 : Option Addr) (n1 c1 n2 c2 : Nat) (q1 q2 : Nat → Prop), Rd W q1 1 A1 n1 (ii S) → Rd W q2 1 A2 n2 (ii S) → n1 ≤ 9223372036854775807 → Calls Try.prog 11 #[.slice A1 n1 c1, .slice A2 n2 c2] W (BoolPost W true) := by
    intro W A1 A2 n1 c1 n2 c2 q1 q2 h1 h2 h3
    have := ints_any A1 n1 c1 A2 n2 c2 S S W h1 h2 h3
    simpa using this
  have Hyes := Lib.hid hyes
  clear hyes
  go_region_held3 (fun W => Below W0.heap.size W0 W ∧ W.cell? ⟨w.heap.size, 0, none⟩ = some (.int .i64 lim) ∧ W.cell? ⟨w.heap.size, 1, none⟩ = some (.slice A n c)) ((refine sof _ ?_; first | exact (Below.refl _ _).drew | (go_split_ands; exact Below.trans (by assumption) (Below.mono (by assumption) (Below.size (by assumption)))))) (first
    | (go_at_call 8; refine (give_any lim A n c l _ (r0.below (by go_split_ands; assumption)) (by omega)).mono ?_; rintro e w1 ⟨A1, n1, c1, rfl, r1, hb1⟩)
    | (go_at_call 12; refine (rounds_any lim A1 n1 c1 l term _ (by first | exact r1 | exact r1.below (by assumption)) (by have := r1.flen itc_len (by omega); omega)).mono ?_; rintro e w2 ⟨A2, n2, c2, rfl, r2, hb2⟩; rw [← HS.out] at r2)
    | (go_at_call 13; refine (roundsR_any lim A n c l term _ (r0.below (by go_split_ands; assumption)) (by omega)).mono ?_; rintro e w3 ⟨A3, n3, c3, rfl, r3, hb3⟩; rw [← HS.out] at r3)
    | (go_at_call 11; refine (Hyes.out _ A2 A3 n2 c2 n3 c3 _ _ (by first | exact r2 | exact r2.below (by assumption)) (by first | exact r3 | exact r3.below (by assumption) | exact (r3.below (by assumption)).below (by assumption)) (by have := ii_len r2; omega)).mono ?_; rintro e w4 ⟨rfl, hb4⟩)
    | (go_at_call 6; refine (sure_any _).mono ?_; rintro e w5 ⟨rfl, hb5⟩))
  all_goals
    go_wp2_with fail
    go_ret
    exact ⟨rfl, hbe.trans (Below.mono (by go_split_ands; assumption) hbe.size)⟩
end Go.Proofs.Ytodjjcnidgmkmaa
