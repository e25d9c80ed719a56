/- Walk of tollbarlaw09.EntryNewer. -/
import Derived.Test.YtepcmjclaeidjaaSure
import Derived.Test.YtepcmjclaeidjaaLong
namespace Go.Proofs.Ytepcmjclaeidjaa
open Go.RowKit
set_option maxRecDepth 100000
set_option linter.unusedVariables false
set_option linter.unusedSimpArgs false
attribute [local go_sem ↓] Go.wp_at_zero Go.wp_at_succ
section
variable {P : Program} {ops : Array Oper} {Q : Exit → Act → World → Prop} {md : Region.Mode}
theorem hand_take {i d : Nat} {oi : Oper} {v : Value} {fuel : Nat} {listed : Array Bool} {a : Act} {w : World} (hi : ops[i]? = some oi)
    (hs : Region.noSelect ops = true) (hf : Region.free md ops listed i = true) (hr : (Region.ready md ops listed).contains i = true)
    (hQ : ∀ c a w, Q (.panic c) (a.put oi.dst v) w → Q (.panic c) a w) (hd : oi.dst = some d) (hw : Region.wanted oi (yielded ops a.tmps) = true) (hy : ∀ w, (execOp a.eval oi).run P w = .ok (.value v) w)
    (h : wpAny P md ops Q fuel (listed.setIfInBounds i true) (a.put (some d) v) w) : wpAny P md ops Q (fuel + 1) listed a w :=
  wpAny_take hi hs hf hr hQ (Or.inl ⟨hw, hy⟩) (by rw [hd]; exact h)
theorem hand_skip {i d : Nat} {oi : Oper} {fuel : Nat} {listed : Array Bool} {a : Act} {w : World} (hi : ops[i]? = some oi)
    (hs : Region.noSelect ops = true) (hf : Region.free md ops listed i = true) (hr : (Region.ready md ops listed).contains i = true)
    (hQ : ∀ c a w, Q (.panic c) (a.put oi.dst undef) w → Q (.panic c) a w) (hd : oi.dst = some d) (hw : Region.wanted oi (yielded ops a.tmps) = false)
    (h : wpAny P md ops Q fuel (listed.setIfInBounds i true) (a.put (some d) undef) w) : wpAny P md ops Q (fuel + 1) listed a w :=
  wpAny_take hi hs hf hr hQ (Or.inr ⟨hw, rfl⟩) (by rw [hd]; exact h)
end
theorem below_on {w5 W w6 : World} (h : Below w5.heap.size w5 W) (h2 : Below W.heap.size W w6) : Below w5.heap.size w5 w6 := h.trans (h2.mono h.size)
set_option maxHeartbeats 6400000 in
theorem newer_walk (b t ix tm : Int) (A : Option Addr) (n c : Nat) (L : List Er) (w : World) (hr : Rd w T 4 A n (flat ecell L)) (hd : Dat w L) (hw : ∀ y ∈ L, W64 y ∧ y.n ≤ 140737488351232) (hn : n ≤ 9223372036854775807) :
    Calls Try.prog 3 #[.agg #[.int .i64 b, .int .i64 t, .slice A n c], .int .i64 ix, .int .i64 tm] w (YesPost w) := by
  obtain ⟨W0, hW0⟩ : ∃ W0, W0 = w.alloc (.cells #[.int .i64 b, .int .i64 t, .slice A n c] 24) := ⟨_, rfl⟩
  have bx0 : Bx W0 w.heap.size #[.int .i64 b, .int .i64 t, .slice A n c] := by subst hW0; exact Bx.new _ _ _ rfl
  have hb0 : Below w.heap.size w W0 := by subst hW0; exact (Below.refl _ _).alloc (Nat.le_refl _) _
  have r0 : Rd W0 T 4 A n (flat ecell L) := by subst hW0; exact hr.alloc _
  have d0 : Dat W0 L := hd.below (by subst hW0; exact (Below.refl _ _).alloc (Nat.le_refl _) _)
  have hll := hr.flen ecell_len (by omega)
  have hwl : Wel L := fun y hy => ⟨(hw y hy).1, ((hd y hy).1.blen).symm⟩
  have hk := fun (W : World) (h : Below W0.heap.size W0 W) => (bx0.below h).c3
  have hkw := fun (W : World) (h : Below W0.heap.size W0 W) => hb0.trans (h.mono hb0.size)
  have hlg := fun (W : World) (h : Below W0.heap.size W0 W) => longs_any A n c L W (r0.below h) (fun x hx => (hw x hx).2) hn
  obtain ⟨lg, hlgv⟩ : ∃ lg, longB L = lg := ⟨_, rfl⟩
  rw [hlgv] at hlg
  cases lg
  · obtain ⟨hl1, hl2⟩ := longB_no hlgv
    have hgv := fun (W : World) (h : Below W0.heap.size W0 W) => giveLog_any b t A n c L W (r0.below h) (d0.below h) (fun x hx => by have := hl2 x hx; omega) (by omega)
    have hrn := fun (W : World) (h : Below W0.heap.size W0 W) => newerR_any b t ix tm A n c L W (r0.below h) hwl (by omega)
    have hnw := fun (W : World) A' c' L' (r : Rd W T 4 A' n (flat ecell L')) (d : Dat W L') (hs : Same L L') => newer_any b t ix tm A' n c' L' W r (Wel.of (B := 0) (n := 0) (c := 0) (A := none) hwl hs d) (by omega)
    have hnw2 : ∀ (W : World) A' c' L', Rd W T 4 A' n (flat ecell L') → Dat W L' → Same L L' → Calls Try.prog 7 #[.agg #[.int .i64 b, .int .i64 t, .slice A' n c'], .int .i64 ix, .int .i64 tm] W (BoolPost W (newB b t (L.map en) ix tm)) := fun W A' c' L' r d hs => by
      have := hnw W A' c' L' r d hs
      rwa [hs] at this
    generalize newB b t (L.map en) ix tm = V at hrn hnw2
    have Hk := Lib.hid hk
    have Hkw := Lib.hid hkw
    have Hlg := Lib.hid hlg
    have Hgv := Lib.hid hgv
    have Hrn := Lib.hid hrn
    have Hnw := Lib.hid hnw2
    have HW := Lib.hid hW0
    obtain ⟨a0, a1, a2, -⟩ := bx0.c3
    have hVV : (V == V) = true := by simp
    clear hr hd hw hW0 bx0 hb0 r0 d0 hwl hk hkw hlg hgv hrn hnw hnw2 hl2 hlgv hll
    go_enter Try.func3, Try.ntmps3
    go_upto_region 1 with (fail)
    rw [← HW.out]
    have hbz : Below W0.heap.size W0 W0.drew := (Below.refl _ _).drew
    first | (go_region_with (first
      | (go_at_call 5; refine (Hlg.out _ (by assumption)).mono ?_; rintro e w1 ⟨rfl, hb1⟩; have hbn := below_on (w5 := W0) (by assumption) hb1; obtain ⟨x0, x1, x2, -⟩ := Hk.out _ hbn)
      | (go_at_call 8; refine (Hgv.out _ (by assumption)).mono ?_; rintro e w2 ⟨A', c', L', rfl, r2, d2, sm2, -, -, hb2⟩; have hbn := below_on (w5 := W0) (by assumption) hb2; obtain ⟨x0, x1, x2, -⟩ := Hk.out _ hbn)
      | (go_at_call 7; refine (Hnw.out _ A' c' L' (by first | exact r2 | exact r2.below (by assumption)) (by first | exact d2 | exact d2.below (by assumption)) sm2).mono ?_; rintro e w3 ⟨rfl, hb3⟩; have hbn := below_on (w5 := W0) (by assumption) hb3; obtain ⟨x0, x1, x2, -⟩ := Hk.out _ hbn)
      | (go_at_call 9; refine (Hrn.out _ (by assumption)).mono ?_; rintro e w4 ⟨rfl, hb4⟩; have hbn := below_on (w5 := W0) (by assumption) hb4; obtain ⟨x0, x1, x2, -⟩ := Hk.out _ hbn)
      | (go_at_call 6; refine (sure_any _).mono ?_; rintro e w6 ⟨rfl, hb6⟩; have hbn := below_on (w5 := W0) (by assumption) hb6))) | fail
    all_goals
      go_wp2_with fail
      go_ret
      exact ⟨rfl, Hkw.out _ (by assumption)⟩
  · have Hk := Lib.hid hk
    have Hkw := Lib.hid hkw
    have Hlg := Lib.hid hlg
    have HW := Lib.hid hW0
    obtain ⟨a0, a1, a2, -⟩ := bx0.c3
    clear hr hd hw hW0 bx0 hb0 r0 d0 hwl hk hkw hlg hlgv hll
    go_enter Try.func3, Try.ntmps3
    go_upto_region 1 with (fail)
    rw [← HW.out]
    have hbz : Below W0.heap.size W0 W0.drew := (Below.refl _ _).drew
    refine wp_region_any (by kernel_rfl) ?_
    show wpAny _ _ _ _ _ _ _ (World.drew _)
    refine hand_take (i := 0) (d := 7) (v := ?_) rfl (by kernel_rfl) (by kernel_rfl) (by kernel_rfl) (fun _ _ _ h => h) (by kernel_rfl) (by rfl) ?_ ?_
    rotate_left
    · intro w
      go_simp
      try with_reducible rfl
    try simp only [Act.put, List.setIfInBounds_toArray, List.set_cons_zero, List.set_cons_succ]
    refine wpAny_ready (rs := [1]) (by kernel_rfl) (by simp) ?_
    refine AllReady.cons rfl (fun K hK => ?_) AllReady.nil
    go_simp
    refine hK _ _ ?_
    clear hK K
    try simp only [Act.put, List.setIfInBounds_toArray, List.set_cons_zero, List.set_cons_succ]
    refine wpAny_ready (rs := [2]) (by kernel_rfl) (by simp) ?_
    refine AllReady.cons rfl (fun K hK => ?_) AllReady.nil
    go_simp
    go_at_call 5
    refine (Hlg.out _ (by assumption)).mono ?_
    rintro e w1 ⟨rfl, hb1⟩
    have hbn := below_on (w5 := W0) (by assumption) hb1
    obtain ⟨x0, x1, x2, -⟩ := Hk.out _ hbn
    refine hK _ _ ?_
    clear hK K
    try simp only [Act.put, List.setIfInBounds_toArray, List.set_cons_zero, List.set_cons_succ]
    refine hand_take (i := 3) (d := 10) (v := ?_) rfl (by kernel_rfl) (by kernel_rfl) (by kernel_rfl) (fun _ _ _ h => h) (by kernel_rfl) (by rfl) ?_ ?_
    rotate_left
    · intro w
      go_simp
      try with_reducible rfl
    try simp only [Act.put, List.setIfInBounds_toArray, List.set_cons_zero, List.set_cons_succ]
    refine wpAny_ready (rs := [4]) (by kernel_rfl) (by simp) ?_
    refine AllReady.cons rfl (fun K hK => ?_) AllReady.nil
    go_simp
    go_at_call 6
    refine (sure_any _).mono ?_
    rintro e w6 ⟨rfl, hb6⟩
    have hbn := below_on (w5 := W0) (by assumption) hb6
    refine hK _ _ ?_
    clear hK K
    try simp only [Act.put, List.setIfInBounds_toArray, List.set_cons_zero, List.set_cons_succ]
    refine hand_take (i := 5) (d := 12) (v := ?_) rfl (by kernel_rfl) (by kernel_rfl) (by kernel_rfl) (fun _ _ _ h => h) (by kernel_rfl) (by rfl) ?_ ?_
    rotate_left
    · intro w
      go_simp
      try with_reducible rfl
    try simp only [Act.put, List.setIfInBounds_toArray, List.set_cons_zero, List.set_cons_succ]
    refine hand_take (i := 6) (d := 13) (v := ?_) rfl (by kernel_rfl) (by kernel_rfl) (by kernel_rfl) (fun _ _ _ h => h) (by kernel_rfl) (by rfl) ?_ ?_
    rotate_left
    · intro w
      go_simp
      try with_reducible rfl
    try simp only [Act.put, List.setIfInBounds_toArray, List.set_cons_zero, List.set_cons_succ]
    refine hand_skip (i := 7) (d := 14) rfl (by kernel_rfl) (by kernel_rfl) (by kernel_rfl) (fun _ _ _ h => h) (by kernel_rfl) (by rfl) ?_
    try simp only [Act.put, List.setIfInBounds_toArray, List.set_cons_zero, List.set_cons_succ]
    refine hand_skip (i := 8) (d := 15) rfl (by kernel_rfl) (by kernel_rfl) (by kernel_rfl) (fun _ _ _ h => h) (by kernel_rfl) (by rfl) ?_
    try simp only [Act.put, List.setIfInBounds_toArray, List.set_cons_zero, List.set_cons_succ]
    refine hand_skip (i := 9) (d := 16) rfl (by kernel_rfl) (by kernel_rfl) (by kernel_rfl) (fun _ _ _ h => h) (by kernel_rfl) (by rfl) ?_
    try simp only [Act.put, List.setIfInBounds_toArray, List.set_cons_zero, List.set_cons_succ]
    refine hand_skip (i := 10) (d := 17) rfl (by kernel_rfl) (by kernel_rfl) (by kernel_rfl) (fun _ _ _ h => h) (by kernel_rfl) (by rfl) ?_
    try simp only [Act.put, List.setIfInBounds_toArray, List.set_cons_zero, List.set_cons_succ]
    refine hand_skip (i := 11) (d := 18) rfl (by kernel_rfl) (by kernel_rfl) (by kernel_rfl) (fun _ _ _ h => h) (by kernel_rfl) (by rfl) ?_
    try simp only [Act.put, List.setIfInBounds_toArray, List.set_cons_zero, List.set_cons_succ]
    refine hand_skip (i := 12) (d := 19) rfl (by kernel_rfl) (by kernel_rfl) (by kernel_rfl) (fun _ _ _ h => h) (by kernel_rfl) (by rfl) ?_
    try simp only [Act.put, List.setIfInBounds_toArray, List.set_cons_zero, List.set_cons_succ]
    refine hand_skip (i := 13) (d := 20) rfl (by kernel_rfl) (by kernel_rfl) (by kernel_rfl) (fun _ _ _ h => h) (by kernel_rfl) (by rfl) ?_
    try simp only [Act.put, List.setIfInBounds_toArray, List.set_cons_zero, List.set_cons_succ]
    refine hand_skip (i := 14) (d := 21) rfl (by kernel_rfl) (by kernel_rfl) (by kernel_rfl) (fun _ _ _ h => h) (by kernel_rfl) (by rfl) ?_
    try simp only [Act.put, List.setIfInBounds_toArray, List.set_cons_zero, List.set_cons_succ]
    refine hand_skip (i := 15) (d := 22) rfl (by kernel_rfl) (by kernel_rfl) (by kernel_rfl) (fun _ _ _ h => h) (by kernel_rfl) (by rfl) ?_
    try simp only [Act.put, List.setIfInBounds_toArray, List.set_cons_zero, List.set_cons_succ]
    refine hand_skip (i := 16) (d := 23) rfl (by kernel_rfl) (by kernel_rfl) (by kernel_rfl) (fun _ _ _ h => h) (by kernel_rfl) (by rfl) ?_
    try simp only [Act.put, List.setIfInBounds_toArray, List.set_cons_zero, List.set_cons_succ]
    refine hand_skip (i := 17) (d := 24) rfl (by kernel_rfl) (by kernel_rfl) (by kernel_rfl) (fun _ _ _ h => h) (by kernel_rfl) (by rfl) ?_
    try simp only [Act.put, List.setIfInBounds_toArray, List.set_cons_zero, List.set_cons_succ]
    refine hand_skip (i := 18) (d := 25) rfl (by kernel_rfl) (by kernel_rfl) (by kernel_rfl) (fun _ _ _ h => h) (by kernel_rfl) (by rfl) ?_
    try simp only [Act.put, List.setIfInBounds_toArray, List.set_cons_zero, List.set_cons_succ]
    refine hand_skip (i := 19) (d := 26) rfl (by kernel_rfl) (by kernel_rfl) (by kernel_rfl) (fun _ _ _ h => h) (by kernel_rfl) (by rfl) ?_
    try simp only [Act.put, List.setIfInBounds_toArray, List.set_cons_zero, List.set_cons_succ]
    refine hand_take (i := 20) (d := 27) (v := ?_) rfl (by kernel_rfl) (by kernel_rfl) (by kernel_rfl) (fun _ _ _ h => h) (by kernel_rfl) (by rfl) ?_ ?_
    rotate_left
    · intro w
      go_simp
      try with_reducible rfl
    try simp only [Act.put, List.setIfInBounds_toArray, List.set_cons_zero, List.set_cons_succ]
    refine hand_take (i := 21) (d := 6) (v := ?_) rfl (by kernel_rfl) (by kernel_rfl) (by kernel_rfl) (fun _ _ _ h => h) (by kernel_rfl) (by rfl) ?_ ?_
    rotate_left
    · intro w
      go_simp
      try with_reducible rfl
    try simp only [Act.put, List.setIfInBounds_toArray, List.set_cons_zero, List.set_cons_succ]
    refine wpAny_done (by kernel_rfl) ?_ _
    go_wp2_with fail
    go_ret
    exact ⟨rfl, Hkw.out _ (by assumption)⟩
end Go.Proofs.Ytepcmjclaeidjaa
