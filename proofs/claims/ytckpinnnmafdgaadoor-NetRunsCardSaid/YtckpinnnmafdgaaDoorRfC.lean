/- The document's Copy. -/
import Derived.Test.YtckpinnnmafdgaaDoorRfT
import Derived.Test.YtckpinnnmafdgaaDoorRfN
namespace Go.Proofs.YtckpinnnmafdgaaDoor
open Go.RowKit
set_option maxRecDepth 100000
set_option linter.unusedVariables false
set_option linter.unusedSimpArgs false
def TwoR (w : World) (R : Rn → Int → Int → World → Prop) (e : Ending) (w' : World) : Prop := ∃ r' y j w1, e = .returned (.tuple #[rnA r', .int .i64 y, .int .i64 j]) ∧ R r' y j w1 ∧ Below w.heap.size w w1 ∧ Below w.heap.size w w' ∧ ∀ b, b ≠ w.heap.size + 1 → w'.heap[b]? = w1.heap[b]?
set_option maxHeartbeats 1600000 in
theorem copyR_none (r : Rn) (z : Int) (w : World) {ok : Nat → Prop} (hr : RN w ok r) (hno : ∀ x ∈ r.l, byId z x = false) :
    Calls Tryd.prog 16 #[rnA r, .int .i64 z] w (RfS w (.tuple #[rnA r, .int .i64 0, .int .i64 8])) := by
  have hf := fun W (hW : Below w.heap.size w W) => findR_any r z W (hr.below hW)
  obtain ⟨lim, last, LA, ln, lc, l, CA, cn, cc, cuts⟩ := r
  unfold rnA at hf ⊢
  dsimp only at hf hno ⊢
  obtain ⟨W0, hW0⟩ : ∃ W0, W0 = (w.alloc (.cells #[.int .i64 lim, .int .i64 last, .slice LA ln lc, .slice CA cn cc] 46)).alloc (.cells #[.int .i64 0, .int .i64 0, .slice none 0 0, .slice none 0 0] 46) := ⟨_, rfl⟩
  have b0 : Bx W0 w.heap.size #[.int .i64 lim, .int .i64 last, .slice LA ln lc, .slice CA cn cc] := by subst hW0; exact (Bx.new _ _ _ rfl).alloc _
  have b1 : Bx W0 (w.heap.size + 1) #[.int .i64 0, .int .i64 0, .slice none 0 0, .slice none 0 0] := by subst hW0; exact Bx.new _ _ _ (by simp)
  have hbe : Below w.heap.size w W0 := by subst hW0; exact ((Below.refl _ _).alloc (Nat.le_refl _) _).alloc (by simp) _
  obtain ⟨k0, k1, k2, k3, -⟩ := b0.c4
  have Hf := Lib.hid hf
  have B0 := Lib.hid b0
  have B1 := Lib.hid b1
  have Hbe := Lib.hid hbe
  have HW := Lib.hid hW0
  have Hno := Lib.hid hno
  clear hf hr b0 b1 hbe hW0 hno
  go_enter Tryd.func16, Tryd.ntmps16
  go_wp2_with fail
  rw [← HW.out]
  refine (Hf.out _ Hbe.out).mono ?_
  rintro e w1 ⟨k, rfl, hat, hb⟩
  obtain rfl := at_no hat Hno.out
  clear k0 k1 k2 k3
  obtain ⟨k0, k1, k2, k3, -⟩ := (B0.out.below hb).c4
  obtain ⟨r0, r1, r2, r3, f0, f1, f2, f3⟩ := (B1.out.below hb).c4
  have hb1 := Hbe.out.trans (hb.mono Hbe.out.size)
  have Hb1 := Lib.hid hb1
  clear hb hb1 hat
  go_wp2_with fail
  refine bodyPost_ret (by simp [results, Tryd.results16, go_sem, r0, r1, r2, r3]; rfl) rfl ?_
  exact ⟨rfl, below_four Hb1.out (by omega) _ _ _ _⟩
set_option maxHeartbeats 1600000 in
/-- One that is on its way is put once more. -/
theorem copyR_put (r : Rn) (z : Int) (w : World) {ok : Nat → Prop} (hr : RN w ok r) (j : Nat) (y : Ic) (hy : r.l[j]? = some y) (hz : byId z y = true) (hne : ∀ x ∈ r.l.take j, byId z x = false) (R : Rn → Int → Int → World → Prop)
    (hput : ∀ w2, Below w.heap.size w w2 → w.heap.size + 2 ≤ w2.heap.size → Calls Tryd.prog 19 #[rnA r, .int .i64 y.fr, .int .i64 y.to, .slice y.A y.n y.c] w2 (fun e w' => ∃ r' y j, e = .returned (.tuple #[rnA r', .int .i64 y, .int .i64 j]) ∧ R r' y j w' ∧ Below w2.heap.size w2 w')) :
    Calls Tryd.prog 16 #[rnA r, .int .i64 z] w (TwoR w R) := by
  have hf := fun W (hW : Below w.heap.size w W) => findR_any r z W (hr.below hW)
  have hrl := hr.lt
  have hn1 := hr.n1
  have hlen := hr.len
  obtain ⟨lim, last, LA, ln, lc, l, CA, cn, cc, cuts⟩ := r
  unfold rnA at hf hput ⊢
  dsimp only at hf hy hne hput hn1 hlen ⊢
  have hjn : j < ln := by have := (List.getElem?_eq_some_iff.1 hy).1; omega
  obtain ⟨W0, hW0⟩ : ∃ W0, W0 = (w.alloc (.cells #[.int .i64 lim, .int .i64 last, .slice LA ln lc, .slice CA cn cc] 46)).alloc (.cells #[.int .i64 0, .int .i64 0, .slice none 0 0, .slice none 0 0] 46) := ⟨_, rfl⟩
  have b0 : Bx W0 w.heap.size #[.int .i64 lim, .int .i64 last, .slice LA ln lc, .slice CA cn cc] := by subst hW0; exact (Bx.new _ _ _ rfl).alloc _
  have b1 : Bx W0 (w.heap.size + 1) #[.int .i64 0, .int .i64 0, .slice none 0 0, .slice none 0 0] := by subst hW0; exact Bx.new _ _ _ (by simp)
  have hbe : Below w.heap.size w W0 := by subst hW0; exact ((Below.refl _ _).alloc (Nat.le_refl _) _).alloc (by simp) _
  have hz0 : w.heap.size + 2 ≤ W0.heap.size := by subst hW0; simp
  obtain ⟨k0, k1, k2, k3, -⟩ := b0.c4
  have Hf := Lib.hid hf
  have B0 := Lib.hid b0
  have B1 := Lib.hid b1
  have Hbe := Lib.hid hbe
  have HW := Lib.hid hW0
  have Hy := Lib.hid (And.intro hy (And.intro hz hne))
  have Hrl := Lib.hid hrl
  have Hput := Lib.hid hput
  have Hz0 := Lib.hid hz0
  clear hf hr b0 b1 hbe hW0 hy hz hne hrl hput hlen hz0
  go_enter Tryd.func16, Tryd.ntmps16
  go_wp2_with fail
  rw [← HW.out]
  refine (Hf.out _ Hbe.out).mono ?_
  rintro e w1 ⟨k, rfl, hat, hb⟩
  obtain rfl := at_yes hat Hy.out.1 Hy.out.2.1 Hy.out.2.2
  clear k0 k1 k2 k3
  obtain ⟨k0, k1, k2, k3, -⟩ := (B0.out.below hb).c4
  have b1' := B1.out.below hb
  have hb1 := Hbe.out.trans (hb.mono Hbe.out.size)
  have hz1 := Nat.le_trans Hz0.out hb.size
  obtain ⟨bb, o, x, hLA, -, hbl, hx, q0, q1, q2, q3⟩ := ic_cells (Hrl.out.it.below hb1) hjn
  dsimp only at hLA
  subst hLA
  obtain rfl : y = x := by have := Hy.out.1.symm.trans hx; simpa using this
  have hjI : (j : Int) < ln := by omega
  have hjd : decide ((j : Int) < 0) = false := by simp
  have hj0 : ¬ ((j : Int) < 0) := by omega
  have B1' := Lib.hid b1'
  have Hb1 := Lib.hid hb1
  have Hz1 := Lib.hid hz1
  clear hb hb1 hat b1' hx hz1
  go_wp2_with fail
  refine wp_region_reads_then 19 (by kernel_rfl) (by kernel_rfl) ?_
  simp only [List.take_succ_cons, List.take_zero]
  repeat still_step
  refine wpStill_nil ?_
  show wpAny _ _ _ _ 7 _ _ _
  refine wpAny_ready (rs := [19]) (by kernel_rfl) (by simp) ?_
  refine AllReady.cons rfl (fun K hK => ?_) AllReady.nil
  go_simp
  go_at_call 19
  refine (Hput.out _ Hb1.out.drew Hz1.out).mono ?_
  rintro e w3 ⟨r3, y3, j3, rfl, h3, hb3⟩
  have hb13 : Below w1.heap.size w1 w3 := ((Below.refl _ _).drew).trans hb3
  have b3 := B1'.out.below hb13
  have hbw3 := Hb1.out.trans (hb13.mono Hb1.out.size)
  obtain ⟨lim3, last3, LA3, ln3, lc3, l3, CA3, cn3, cc3, cuts3⟩ := r3
  dsimp only
  have H3 := Lib.hid h3
  have Hbw3 := Lib.hid hbw3
  obtain ⟨r0, r1, r2, r3, f0, f1, f2, f3⟩ := b3.c4
  clear h3 hb3 hb13 b3 hbw3
  refine hK _ _ ?_
  clear hK K
  refine wpAny_take (i := 20) (v := ?_) rfl (by kernel_rfl) (by kernel_rfl) (by kernel_rfl) (fun _ _ _ h => h) (Or.inl ⟨by rfl, ?_⟩) ?_
  rotate_left
  · intro w
    go_simp
    try with_reducible rfl
  refine wpAny_take (i := 21) (v := ?_) rfl (by kernel_rfl) (by kernel_rfl) (by kernel_rfl) (fun _ _ _ h => h) (Or.inl ⟨by rfl, ?_⟩) ?_
  rotate_left
  · intro w
    go_simp
    try with_reducible rfl
  refine wpAny_take (i := 22) (v := ?_) rfl (by kernel_rfl) (by kernel_rfl) (by kernel_rfl) (fun _ _ _ h => h) (Or.inl ⟨by rfl, ?_⟩) ?_
  rotate_left
  · intro w
    go_simp
    try with_reducible rfl
  refine wpAny_ready (rs := [23]) (by kernel_rfl) (by simp) ?_
  refine AllReady.cons rfl (fun K hK => ?_) AllReady.nil
  go_simp
  refine hK _ _ ?_
  clear hK K
  refine wpAny_take (i := 24) (v := ?_) rfl (by kernel_rfl) (by kernel_rfl) (by kernel_rfl) (fun _ _ _ h => h) (Or.inl ⟨by rfl, ?_⟩) ?_
  rotate_left
  · intro w
    go_simp
    try with_reducible rfl
  refine wpAny_take (i := 25) (v := ?_) rfl (by kernel_rfl) (by kernel_rfl) (by kernel_rfl) (fun _ _ _ h => h) (Or.inl ⟨by rfl, ?_⟩) ?_
  rotate_left
  · intro w
    go_simp
    try with_reducible rfl
  refine wpAny_done (by kernel_rfl) ?_ _
  go_wp2_with fail
  refine bodyPost_ret (by simp [results, Tryd.results16, go_sem, r0, r1, r2, r3]; rfl) rfl ?_
  exact ⟨⟨lim3, last3, LA3, ln3, lc3, l3, CA3, cn3, cc3, cuts3⟩, y3, j3, w3, rfl, H3.out, Hbw3.out, below_four Hbw3.out (by omega) _ _ _ _, fun b hb => four_heap hb _ _ _ _⟩
end Go.Proofs.YtckpinnnmafdgaaDoor
