/- Walk of the law's same, where the queues are alike; read.Check. -/
import Derived.Test.YtodjjcnidgmkmaaDoorInts
import Derived.Deep.QuietTactic
import Derived.BigQuiet
namespace Go.Proofs.YtodjjcnidgmkmaaDoor
open Go.RowKit
set_option linter.unusedVariables false
set_option linter.unusedSimpArgs false
set_option maxHeartbeats 800000 in
theorem same_any (lim : Int) (A : Option Addr) (n c : Nat) (B : Option Addr) (m d : Nat) (l : List It) (w : World) {ok ok' : Nat → Prop} (h1 : Rd w ok 4 A n (flat itc l)) (h2 : Rd w ok' 4 B m (flat itc l)) (hn : n ≤ 1000000) :
    Calls Tryd.prog 9 #[quA lim A n c, quA lim B m d] w (BoolPost w true) := by
  have l1 := h1.flen itc_len (by omega)
  have l2 := h2.flen itc_len (by omega)
  obtain rfl : m = n := by omega
  have e1 : (lim != lim) = false := by simp
  have e2 : ((m : Int) != (m : Int)) = false := by simp
  obtain ⟨W0, hW0⟩ : ∃ W0, W0 = (w.alloc (.cells #[.int .i64 lim, .slice A m c] 30)).alloc (.cells #[.int .i64 lim, .slice B m d] 24) := ⟨_, rfl⟩
  have X0 : Bx W0 w.heap.size #[.int .i64 lim, .slice A m c] := by subst hW0; exact (Bx.new _ _ _ rfl).alloc _
  have X1 : Bx W0 (w.heap.size + 1) #[.int .i64 lim, .slice B m d] := by subst hW0; exact Bx.new _ _ _ (by simp)
  have r1 : Rd W0 ok 4 A m (flat itc l) := by subst hW0; exact (h1.alloc _).alloc _
  have r2 : Rd W0 ok' 4 B m (flat itc l) := by subst hW0; exact (h2.alloc _).alloc _
  have hbe : Below w.heap.size w W0 := by subst hW0; exact ((Below.refl _ _).alloc (Nat.le_refl _) _).alloc (by simp) _
  have HW := Lib.hid hW0
  clear l1 l2 hW0
  unfold quA
  go_enter Tryd.func9, Tryd.ntmps9
  go_wp2_with fail
  rw [← HW.out]
  go_loopg [5] m (fun k s5 wr => ∃ j : Nat, k = m - j ∧ j ≤ m ∧ s5 = .int .i64 j ∧ Below W0.heap.size W0 wr)
  case atStart => exact ⟨0, by omega, by omega, rfl, Below.refl _ _⟩
  case round =>
    obtain ⟨j, hk, hj, rfl, hb⟩ := hrel
    have Hk := Lib.hid hk
    clear hk
    have q1 : wr.cell? ⟨w.heap.size, 1, none⟩ = some (.slice A m c) := (X0.below hb).c 1
    have q2 : wr.cell? ⟨w.heap.size + 1, 1, none⟩ = some (.slice B m d) := (X1.below hb).c 1
    by_cases hlt : j < m
    · obtain ⟨b1, o1, x, rfl, _, _, hx1, a0, a1, a2, a3⟩ := it_cells (r1.below hb) hlt
      obtain ⟨b2, o2, y, rfl, _, _, hx2, d0, d1, d2, d3⟩ := it_cells (r2.below hb) hlt
      rw [hx1] at hx2
      obtain rfl := Option.some.inj hx2
      clear hx1 hx2
      have hjn : (j : Int) < m := by omega
      have h0j : (0 : Int) ≤ j := by omega
      go_wp2_with fail
      go_region_held3 (fun W => Below W0.heap.size W0 W ∧ W.cell? ⟨w.heap.size, 1, none⟩ = some (.slice (some ⟨b1, o1, none⟩) m c) ∧ W.cell? ⟨w.heap.size + 1, 1, none⟩ = some (.slice (some ⟨b2, o2, none⟩) m d) ∧ W.cell? ⟨b1, o1 + j * 4, none⟩ = some (.int .i64 x.t) ∧ W.cell? ⟨b1, o1 + j * 4 + 1, none⟩ = some (.int .i64 x.r) ∧ W.cell? ⟨b1, o1 + j * 4 + 2, none⟩ = some (.int .i64 x.i) ∧ W.cell? ⟨b1, o1 + j * 4 + 3, none⟩ = some (.int .i64 x.k) ∧ W.cell? ⟨b2, o2 + j * 4, none⟩ = some (.int .i64 x.t) ∧ W.cell? ⟨b2, o2 + j * 4 + 1, none⟩ = some (.int .i64 x.r) ∧ W.cell? ⟨b2, o2 + j * 4 + 2, none⟩ = some (.int .i64 x.i) ∧ W.cell? ⟨b2, o2 + j * 4 + 3, none⟩ = some (.int .i64 x.k)) (exact ⟨hb.drew, q1, q2, a0, a1, a2, a3, d0, d1, d2, d3⟩) (fail)
      all_goals
        go_wp2_with fail
        go_roundg (m - (j + 1))
        case measure => have := Hk.out; omega
        case rel => exact ⟨j + 1, rfl, by omega, by go_num, by first | exact hb.drew | assumption⟩
    · obtain rfl : j = m := by omega
      go_wp2_with fail
      go_ret
      exact ⟨rfl, hbe.trans (hb.mono hbe.size)⟩
/-- nil, or the number 1. -/
theorem check_any (lim : Int) (A : Option Addr) (n c : Nat) (l : List It) (w : World) {ok : Nat → Prop} (hr : Rd w ok 4 A n (flat itc l)) (hn : n ≤ 1000000) :
    Calls Tryd.prog 14 #[quA lim A n c] w fun e w' => e = .returned (if quMay lim l then .nilIface else .iface 55 (.int .i64 1)) ∧ Below w.heap.size w w' := by
  have hq := quMay_any lim A n c l _ (hr.alloc (.cells #[.int .i64 lim, .slice A n c] 30)) hn
  rcases Bool.eq_false_or_eq_true (quMay lim l) with h | h
  · rw [h] at hq ⊢
    have Hq := Lib.hid hq
    clear hq h
    unfold quA at *
    go_enter Tryd.func14, Tryd.ntmps14
    go_wp2_with fail
    refine Hq.out.mono ?_
    rintro e w' ⟨rfl, hb⟩
    go_wp2_with fail
    go_ret
    exact ⟨rfl, ((Below.refl _ _).alloc (Nat.le_refl _) _).trans (hb.mono (by simp))⟩
  · rw [h] at hq ⊢
    have Hq := Lib.hid hq
    clear hq h
    unfold quA at *
    go_enter Tryd.func14, Tryd.ntmps14
    go_wp2_with fail
    refine Hq.out.mono ?_
    rintro e w' ⟨rfl, hb⟩
    go_wp2_with fail
    go_ret
    exact ⟨rfl, ((Below.refl _ _).alloc (Nat.le_refl _) _).trans (hb.mono (by simp))⟩
end Go.Proofs.YtodjjcnidgmkmaaDoor
