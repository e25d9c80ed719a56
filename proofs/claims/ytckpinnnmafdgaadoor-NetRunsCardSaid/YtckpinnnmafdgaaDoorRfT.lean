/- The document's Take. (Printed by mkrft.py.) -/
import Derived.Test.YtckpinnnmafdgaaDoorRfP
import Derived.Test.YtckpinnnmafdgaaDoorHeldM
namespace Go.Proofs.YtckpinnnmafdgaaDoor
open Go.RowKit
set_option maxRecDepth 100000
set_option linter.unusedVariables false
set_option linter.unusedSimpArgs false
theorem ritem_elem : Elem Tryd.prog 50 (.agg #[.int .i64 0, .int .i64 0, .int .i64 0, .slice none 0 0]) 4 48 := by unfold Elem; kernel_rfl
def noItem : Value := .agg #[.int .i64 0, .int .i64 0, .int .i64 0, .slice none 0 0]
theorem at_yes {k : Int} {z : Int} {l : List Ic} {j : Nat} {y : Ic} (h : At (byId z) l k) (hy : l[j]? = some y) (hz : byId z y = true) (hne : ∀ x ∈ l.take j, byId z x = false) : k = j := by
  rcases h with ⟨i, x, rfl, h1, h2, h3⟩ | ⟨_, h3⟩
  · rcases Nat.lt_trichotomy i j with hlt | he | hlt
    · have hm : x ∈ l.take j := List.mem_iff_getElem?.2 ⟨i, by rw [List.getElem?_take, if_pos hlt, h1]⟩
      rw [hne x hm] at h2
      cases h2
    · rw [he]
    · have hm : y ∈ l.take i := List.mem_iff_getElem?.2 ⟨j, by rw [List.getElem?_take, if_pos hlt, hy]⟩
      rw [h3 y hm] at hz
      cases hz
  · rw [h3 y (List.mem_of_getElem? hy)] at hz
    cases hz
theorem at_no {k : Int} {z : Int} {l : List Ic} (h : At (byId z) l k) (hno : ∀ x ∈ l, byId z x = false) : k = -1 := by
  rcases h with ⟨i, x, rfl, h1, h2, h3⟩ | ⟨h3, _⟩
  · rw [hno x (List.mem_of_getElem? h1)] at h2
    cases h2
  · exact h3
set_option maxHeartbeats 1600000 in
theorem takeR_none (r : Rn) (z : Int) (w : World) {ok : Nat → Prop} (hr : RN w ok r) (hno : ∀ x ∈ r.l, byId z x = false) :
    Calls Tryd.prog 15 #[rnA r, .int .i64 z] w (RfS w (.tuple #[rnA r, noItem, .int .i64 8])) := by
  have hf := fun W (hW : Below w.heap.size w W) => findR_any r z W (hr.below hW)
  obtain ⟨lim, last, LA, ln, lc, l, CA, cn, cc, cuts⟩ := r
  unfold rnA at hf ⊢
  unfold noItem
  dsimp only at hf hno ⊢
  obtain ⟨W0, hW0⟩ : ∃ W0, W0 = ((w.alloc (.cells #[.int .i64 lim, .int .i64 last, .slice LA ln lc, .slice CA cn cc] 46)).alloc (.cells #[.int .i64 0, .int .i64 0, .slice none 0 0, .slice none 0 0] 46)).alloc (.cells #[.int .i64 0, .int .i64 0, .int .i64 0, .slice none 0 0] 50) := ⟨_, rfl⟩
  have b0 : Bx W0 w.heap.size #[.int .i64 lim, .int .i64 last, .slice LA ln lc, .slice CA cn cc] := by subst hW0; exact ((Bx.new _ _ _ rfl).alloc _).alloc _
  have b1 : Bx W0 (w.heap.size + 1) #[.int .i64 0, .int .i64 0, .slice none 0 0, .slice none 0 0] := by subst hW0; exact (Bx.new _ _ _ (by simp)).alloc _
  have b2 : Bx W0 (w.heap.size + 1 + 1) #[.int .i64 0, .int .i64 0, .int .i64 0, .slice none 0 0] := by subst hW0; exact Bx.new _ _ _ (by simp)
  have hbe : Below w.heap.size w W0 := by subst hW0; exact (((Below.refl _ _).alloc (Nat.le_refl _) _).alloc (by simp) _).alloc (by simp; omega) _
  obtain ⟨k0, k1, k2, k3, -⟩ := b0.c4
  have Hf := Lib.hid hf
  have B0 := Lib.hid b0
  have B1 := Lib.hid b1
  have B2 := Lib.hid b2
  have Hbe := Lib.hid hbe
  have HW := Lib.hid hW0
  have Hno := Lib.hid hno
  clear hf hr b0 b1 b2 hbe hW0 hno
  go_enter Tryd.func15, Tryd.ntmps15
  go_wp2_with fail
  rw [← HW.out]
  refine (Hf.out _ Hbe.out).mono ?_
  rintro e w1 ⟨k, rfl, hat, hb⟩
  obtain rfl := at_no hat Hno.out
  clear k0 k1 k2 k3
  obtain ⟨k0, k1, k2, k3, -⟩ := (B0.out.below hb).c4
  obtain ⟨r0, r1, r2, r3, f0, f1, f2, f3⟩ := (B1.out.below hb).c4
  obtain ⟨s0, s1, s2, s3, g0, g1, g2, g3⟩ := (B2.out.below hb).c4
  have hb1 := Hbe.out.trans (hb.mono Hbe.out.size)
  have Hb1 := Lib.hid hb1
  clear hb hb1 hat
  go_wp2_with fail
  refine bodyPost_ret (by simp [results, Tryd.results15, go_sem, r0, r1, r2, r3, s0, s1, s2, s3]; rfl) rfl ?_
  exact ⟨rfl, below_four (below_four Hb1.out (by omega) _ _ _ _) (by omega) _ _ _ _⟩
def TakeRY (w : World) (ok : Nat → Prop) (r : Rn) (j : Nat) (y : Ic) (e : Ending) (w' : World) : Prop := ∃ LA' lc', e = .returned (.tuple #[rnA { r with LA := LA', ln := r.ln - 1, lc := lc', l := r.l.take j ++ r.l.drop (j + 1) }, icA y, .int .i64 0]) ∧ RN w' (fun b => ok b ∨ w.heap.size ≤ b) { r with LA := LA', ln := r.ln - 1, lc := lc', l := r.l.take j ++ r.l.drop (j + 1) } ∧ (LA' = none → lc' = 0) ∧ Below w.heap.size w w'
theorem drew_heap (W : World) : W.drew.heap = W.heap := rfl
theorem four_heap {W : World} {g b : Nat} (h : b ≠ g) (u v x y : Value) : ((((W.setCell ⟨g, 0, none⟩ u).setCell ⟨g, 1, none⟩ v).setCell ⟨g, 2, none⟩ x).setCell ⟨g, 3, none⟩ y).heap[b]? = W.heap[b]? := by
  rw [Below.heap_setCell _ _ _ b h, Below.heap_setCell _ _ _ b h, Below.heap_setCell _ _ _ b h, Below.heap_setCell _ _ _ b h]
theorem takeR_end {w w5 W' : World} {ok : Nat → Prop} {lim last : Int} {LA CA A5 : Option Addr} {ln lc cn cc c5 j B n5 : Nat} {l : List Ic} {cuts : List Pr} {y : Ic}
    (hrl : RN w (fun b => ok b ∧ b < w.heap.size) ⟨lim, last, LA, ln, lc, l, CA, cn, cc, cuts⟩) (ho : w5.ownsRow B 50 4 (.slice A5 n5 c5) n5 (flat icell (l.take j) ++ flat icell (l.drop (j + 1)))) (hB : w.heap.size + 3 ≤ B) (hc : ln ≤ lc ∧ lc ≤ maxLen) (hj : j < ln) (hn : n5 = ln - 1 ∧ ln ≤ 4096)
    (hk : ∀ b, w.heap.size + 3 ≤ b → W'.heap[b]? = w5.heap[b]?) (hbe : Below w.heap.size w W') :
    TakeRY w ok ⟨lim, last, LA, ln, lc, l, CA, cn, cc, cuts⟩ j y (.returned (.tuple #[.agg #[.int .i64 lim, .int .i64 last, .slice A5 (ln - 1) c5, .slice CA cn cc], .agg #[.int .i64 y.id, .int .i64 y.fr, .int .i64 y.to, .slice y.A y.n y.c], .int .i64 0])) W' := by
  obtain ⟨rfl, hn⟩ := hn
  have hko : ∀ b, b < w.heap.size → W'.heap[b]? = w.heap[b]? := fun b hb => hbe.block b hb
  refine ⟨A5, c5, rfl, ⟨?_, fun x hx => ?_, ?_, ?_, ?_, hrl.n2⟩, ?_, hbe⟩
  · have h0 := (Rd.of_own ho).keep (w' := W') (fun b hb _ => hk b (by omega))
    rw [← flat_append] at h0
    exact h0.mono fun b hb => .inr (by omega)
  · have hx' := (cut_sub l j).subset hx
    have := hrl.dt x hx'
    exact ⟨(this.1.keep fun b hb _ => hko b hb.2).mono fun b hb => .inl hb.1, this.2⟩
  · exact (hrl.ct.keep fun b hb _ => hko b hb.2).mono fun b hb => .inl hb.1
  · obtain ⟨A', c', e1, e2, e3⟩ := own_form ho
    injection e1 with e1 e1' e1''
    subst e1''
    exact ⟨e2, e3⟩
  · show ln - 1 ≤ 4096
    omega
  · intro hA
    rcases ho.2 with ⟨h1, _⟩ | ⟨g, cap, cur, h1, _⟩
    · injection h1
    · injection h1 with h1
      rw [hA] at h1
      cases h1
set_option maxHeartbeats 3200000 in
theorem takeR_yes (r : Rn) (z : Int) (w : World) {ok : Nat → Prop} (hr : RN w ok r) (j : Nat) (y : Ic) (hy : r.l[j]? = some y) (hz : byId z y = true) (hne : ∀ x ∈ r.l.take j, byId z x = false) :
    Calls Tryd.prog 15 #[rnA r, .int .i64 z] w (TakeRY w ok r j y) := by
  have hf := fun W (hW : Below w.heap.size w W) => findR_any r z W (hr.below hW)
  have hlen := hr.len
  have hrl := hr.lt
  have hc1 := hr.c1
  have hn1 := hr.n1
  obtain ⟨lim, last, LA, ln, lc, l, CA, cn, cc, cuts⟩ := r
  unfold rnA at hf ⊢
  dsimp only at hf hy hne hlen hc1 hn1 ⊢
  have hjn : j < ln := by have := (List.getElem?_eq_some_iff.1 hy).1; omega
  obtain ⟨W0, hW0⟩ : ∃ W0, W0 = ((w.alloc (.cells #[.int .i64 lim, .int .i64 last, .slice LA ln lc, .slice CA cn cc] 46)).alloc (.cells #[.int .i64 0, .int .i64 0, .slice none 0 0, .slice none 0 0] 46)).alloc (.cells #[.int .i64 0, .int .i64 0, .int .i64 0, .slice none 0 0] 50) := ⟨_, rfl⟩
  have b0 : Bx W0 w.heap.size #[.int .i64 lim, .int .i64 last, .slice LA ln lc, .slice CA cn cc] := by subst hW0; exact ((Bx.new _ _ _ rfl).alloc _).alloc _
  have b1 : Bx W0 (w.heap.size + 1) #[.int .i64 0, .int .i64 0, .slice none 0 0, .slice none 0 0] := by subst hW0; exact (Bx.new _ _ _ (by simp)).alloc _
  have b2 : Bx W0 (w.heap.size + 1 + 1) #[.int .i64 0, .int .i64 0, .int .i64 0, .slice none 0 0] := by subst hW0; exact Bx.new _ _ _ (by simp)
  have hbe : Below w.heap.size w W0 := by subst hW0; exact (((Below.refl _ _).alloc (Nat.le_refl _) _).alloc (by simp) _).alloc (by simp; omega) _
  have hz0 : w.heap.size + 3 ≤ W0.heap.size := by subst hW0; simp
  obtain ⟨k0, k1, k2, k3, -⟩ := b0.c4
  have Hf := Lib.hid hf
  have B0 := Lib.hid b0
  have B1 := Lib.hid b1
  have B2 := Lib.hid b2
  have Hbe := Lib.hid hbe
  have HW := Lib.hid hW0
  have Hy := Lib.hid (And.intro hy (And.intro hz hne))
  have Hrl := Lib.hid hrl
  have Hlen := Lib.hid hlen
  have Hc1 := Lib.hid hc1
  clear hf hr b0 b1 b2 hbe hW0 hy hz hne hrl hlen hc1
  go_enter Tryd.func15, Tryd.ntmps15
  go_wp2_with fail
  rw [← HW.out]
  refine (Hf.out _ Hbe.out).mono ?_
  rintro e w1 ⟨k, rfl, hat, hb⟩
  obtain rfl := at_yes hat Hy.out.1 Hy.out.2.1 Hy.out.2.2
  clear k0 k1 k2 k3 hat
  have hb1 := Hbe.out.trans (hb.mono Hbe.out.size)
  have c0 := B0.out.below hb
  have c1 := B1.out.below hb
  have c2 := B2.out.below hb
  have hz1 := Nat.le_trans hz0 hb.size
  obtain ⟨k0, k1, k2, k3, -⟩ := c0.c4
  obtain ⟨bb, o, x, hLA, -, hbl, hx, q0, q1, q2, q3⟩ := ic_cells (Hrl.out.it.below hb1) hjn
  dsimp only at hLA
  subst hLA
  obtain rfl : y = x := by have := Hy.out.1.symm.trans hx; simpa using this
  have hjI : (j : Int) < ln := by omega
  have hj0 : ¬ ((j : Int) < 0) := by omega
  have hjc : j ≤ lc := by have := Hc1.out.1; omega
  have hjd : decide ((j : Int) < 0) = false := by simp
  have hjw : IntKind.i64.wrap ((j : Int) + 1) = (j : Int) + 1 := by rw [IntKind.wrap_i64]; omega
  obtain ⟨W3, hW3⟩ : ∃ W3, W3 = w1.alloc (.cells #[.int .i64 y.id, .int .i64 y.fr, .int .i64 y.to, .slice y.A y.n y.c] 50) := ⟨_, rfl⟩
  have x3 : Bx W3 w1.heap.size #[.int .i64 y.id, .int .i64 y.fr, .int .i64 y.to, .slice y.A y.n y.c] := by subst hW3; exact Bx.new _ _ _ rfl
  have c0' := c0.alloc (.cells #[.int .i64 y.id, .int .i64 y.fr, .int .i64 y.to, .slice y.A y.n y.c] 50)
  have c1' := c1.alloc (.cells #[.int .i64 y.id, .int .i64 y.fr, .int .i64 y.to, .slice y.A y.n y.c] 50)
  have c2' := c2.alloc (.cells #[.int .i64 y.id, .int .i64 y.fr, .int .i64 y.to, .slice y.A y.n y.c] 50)
  rw [← hW3] at c0' c1' c2'
  have hb3 : Below w.heap.size w W3 := by subst hW3; exact hb1.alloc (by omega) _
  have hz3 : w1.heap.size < W3.heap.size := by subst hW3; simp
  have v2 : W3.drew.cell? ⟨w.heap.size, 2, none⟩ = some (.slice (some ⟨bb, o, none⟩) ln lc) := c0'.c 2
  obtain ⟨ad, had⟩ : ∃ ad, ad = (if lc = j + 1 then (some ⟨bb, o, none⟩ : Option Addr) else (some (⟨bb, o, none⟩ : Addr)).map (·.add ((j + 1) * 4))) := ⟨_, rfl⟩
  have e9 : ∀ W, (Instr.sliceAt 43 (.slice (some ⟨bb, o, none⟩) ln lc) (some (.int .i64 ((j : Int) + 1))) none none).run Tryd.prog W = .ok (.slice ad (ln - (j + 1)) (lc - (j + 1))) W := by
    intro W
    have := run_slice_lo (P := Tryd.prog) 43 Tryd.underlying43 (size := 4) (by kernel_rfl) (some ⟨bb, o, none⟩) ln lc W (j + 1) (by omega)
    rw [← had] at this
    exact this
  have hit : Rd W3 (fun b => ok b ∧ b < w.heap.size) 4 (some ⟨bb, o, none⟩) ln (flat icell l) := Hrl.out.it.below hb3
  have hi1 := hit.take (k := j) (by omega)
  have hi2 := hit.cut (k := j + 1) (cap := lc) (by omega) Hc1.out.1
  rw [← had] at hi2
  rw [← flat_take icell_len] at hi1
  rw [← flat_drop icell_len] at hi2
  have X3 := Lib.hid x3
  have C0 := Lib.hid c0'
  have C1 := Lib.hid c1'
  have C2 := Lib.hid c2'
  have HW3 := Lib.hid hW3
  have Hb3 := Lib.hid hb3
  have Hz3 := Lib.hid (And.intro hz1 hz3)
  have Hi1 := Lib.hid hi1
  have Hi2 := Lib.hid hi2
  have Hx := Lib.hid hx
  have H1 := Lib.hid (icell_one (l.take j))
  have H2 := Lib.hid (icell_one (l.drop (j + 1)))
  clear hb hb1 c0 c1 c2 x3 c0' c1' c2' hW3 hb3 hz1 hz3 hit hi1 hi2 hx had hz0
  go_upto_region 6 with (fail)
  rw [← HW3.out]
  clear k0 k1 k2 k3 q0 q1 q2 q3
  have s0 : W3.drew.cell? ⟨w.heap.size, 2, none⟩ = some (.slice (some ⟨bb, o, none⟩) ln lc) ∧ Below W3.heap.size W3 W3.drew := ⟨v2, (Below.refl _ _).drew⟩
  refine wp_region_M 13 (fun W => W.cell? ⟨w.heap.size, 2, none⟩ = some (.slice (some ⟨bb, o, none⟩) ln lc) ∧ Below W3.heap.size W3 W) (by kernel_rfl) s0 (fun hS => ?_)
  refine wpAnyM_take (i := 0) (v := ?_) rfl (by kernel_rfl) (by kernel_rfl) (by kernel_rfl) (by kernel_rfl) (fun _ _ _ h => h) hS (by rfl) ?_ ?_
  rotate_left
  · rintro W ⟨s1, -⟩
    go_simp
    try with_reducible rfl
  try simp only [Act.put, List.setIfInBounds_toArray, List.set_cons_zero, List.set_cons_succ]
  refine wpAnyM_take (i := 1) (v := ?_) rfl (by kernel_rfl) (by kernel_rfl) (by kernel_rfl) (by kernel_rfl) (fun _ _ _ h => h) hS (by rfl) ?_ ?_
  rotate_left
  · rintro W ⟨s1, -⟩
    go_simp
    try with_reducible rfl
  try simp only [Act.put, List.setIfInBounds_toArray, List.set_cons_zero, List.set_cons_succ]
  refine wpAnyM_take (i := 2) (v := ?_) rfl (by kernel_rfl) (by kernel_rfl) (by kernel_rfl) (by kernel_rfl) (fun _ _ _ h => h) hS (by rfl) ?_ ?_
  rotate_left
  · rintro W ⟨s1, -⟩
    go_simp
    try with_reducible rfl
  try simp only [Act.put, List.setIfInBounds_toArray, List.set_cons_zero, List.set_cons_succ]
  refine wpAnyM_take (i := 3) (v := ?_) rfl (by kernel_rfl) (by kernel_rfl) (by kernel_rfl) (by kernel_rfl) (fun _ _ _ h => h) hS (by rfl) ?_ ?_
  rotate_left
  · rintro W ⟨s1, -⟩
    go_simp
    try with_reducible rfl
  try simp only [Act.put, List.setIfInBounds_toArray, List.set_cons_zero, List.set_cons_succ]
  refine wpAnyM_take (i := 4) (v := ?_) rfl (by kernel_rfl) (by kernel_rfl) (by kernel_rfl) (by kernel_rfl) (fun _ _ _ h => h) hS (by rfl) ?_ ?_
  rotate_left
  · rintro W ⟨s1, -⟩
    go_simp
    try with_reducible rfl
  try simp only [Act.put, List.setIfInBounds_toArray, List.set_cons_zero, List.set_cons_succ]
  refine wpAnyM_take (i := 6) (v := ?_) rfl (by kernel_rfl) (by kernel_rfl) (by kernel_rfl) (by kernel_rfl) (fun _ _ _ h => h) hS (by rfl) ?_ ?_
  rotate_left
  · rintro W ⟨s1, -⟩
    go_simp
    try with_reducible rfl
  try simp only [Act.put, List.setIfInBounds_toArray, List.set_cons_zero, List.set_cons_succ]
  refine wpAnyM_take (i := 7) (v := ?_) rfl (by kernel_rfl) (by kernel_rfl) (by kernel_rfl) (by kernel_rfl) (fun _ _ _ h => h) hS (by rfl) ?_ ?_
  rotate_left
  · rintro W ⟨s1, -⟩
    go_simp
    try with_reducible rfl
  try simp only [Act.put, List.setIfInBounds_toArray, List.set_cons_zero, List.set_cons_succ]
  refine wpAnyM_take (i := 8) (v := ?_) rfl (by kernel_rfl) (by kernel_rfl) (by kernel_rfl) (by kernel_rfl) (fun _ _ _ h => h) hS (by rfl) ?_ ?_
  rotate_left
  · rintro W ⟨s1, -⟩
    go_simp
    try with_reducible rfl
  try simp only [Act.put, List.setIfInBounds_toArray, List.set_cons_zero, List.set_cons_succ]
  refine wpAnyM_take (i := 9) (v := ?_) rfl (by kernel_rfl) (by kernel_rfl) (by kernel_rfl) (by kernel_rfl) (fun _ _ _ h => h) hS (by rfl) ?_ ?_
  rotate_left
  · rintro W ⟨s1, -⟩
    go_simp
    try with_reducible rfl
  try simp only [Act.put, List.setIfInBounds_toArray, List.set_cons_zero, List.set_cons_succ]
  refine wpAnyM_take (i := 10) (v := ?_) rfl (by kernel_rfl) (by kernel_rfl) (by kernel_rfl) (by kernel_rfl) (fun _ _ _ h => h) hS (by rfl) ?_ ?_
  rotate_left
  · rintro W ⟨s1, -⟩
    go_simp
    try with_reducible rfl
  try simp only [Act.put, List.setIfInBounds_toArray, List.set_cons_zero, List.set_cons_succ]
  refine wpAnyM_one (i := 5) (by kernel_rfl) rfl (fun K hK => ?_)
  refine step_append_any (A0 := none) (n := 0) (c0 := 0) (xs := []) (A := some ⟨bb, o, none⟩) (m := j) (c := lc) (news := flat icell (l.take j)) W3.drew Tryd.underlying43 ritem_elem rfl (by omega) rfl rfl (by simp [Act.eval, Act.put]) (own_nil _ W3.heap.size 50 4 0 rfl) (by simp [Act.eval, Act.put]) Hi1.out.drew H1.out (by omega) (by simp) (Nat.zero_add _) (List.nil_append _) ?_
  intro A4 c4 w4 hown4 hg4 hat4
  have hb4 : Below W3.heap.size W3 w4 := ((Below.refl _ _).drew).grown hg4 (Nat.le_refl _) (by simp)
  have hx4 := C0.out.below hb4
  have s4 : w4.cell? ⟨w.heap.size, 2, none⟩ = some (.slice (some ⟨bb, o, none⟩) ln lc) ∧ Below W3.heap.size W3 w4 := ⟨hx4.c 2, hb4⟩
  have Hown4 := Lib.hid hown4
  have Hat4 := Lib.hid hat4
  have Hb4 := Lib.hid hb4
  have Hg4 := Lib.hid hg4
  clear hown4 hat4 hg4 hb4
  refine hK _ _ (fun _ => s4) ?_
  clear hK K hS
  have hS := s4
  clear s0
  try simp only [Act.put, List.setIfInBounds_toArray, List.set_cons_zero, List.set_cons_succ]
  refine wpAnyM_one (i := 11) (by kernel_rfl) rfl (fun K hK => ?_)
  refine step_append_any (A0 := A4) (n := j) (c0 := c4) (xs := flat icell (l.take j)) (A := ad) (m := ln - (j + 1)) (c := lc - (j + 1)) (news := flat icell (l.drop (j + 1))) w4 Tryd.underlying43 ritem_elem rfl (by omega) rfl rfl (by simp [Act.eval, Act.put]) Hown4.out (by simp [Act.eval, Act.put]) (Hi2.out.below Hb4.out) H2.out (by omega) (Hb4.out.size) rfl rfl ?_
  intro A5 c5 w5 hown5 hg5 hat5
  have hlt4 := own_lt Hown4.out
  have hb5 : Below W3.heap.size W3 w5 := Hb4.out.grown hg5 Hb4.out.size (fun g hg => (hlt4 g hg).1)
  have hx5 := C0.out.below hb5
  have s5 : w5.cell? ⟨w.heap.size, 2, none⟩ = some (.slice (some ⟨bb, o, none⟩) ln lc) ∧ Below W3.heap.size W3 w5 := ⟨hx5.c 2, hb5⟩
  have Hown5 := Lib.hid hown5
  have Hb5 := Lib.hid hb5
  clear hown5 hat5 hg5 hb5 hlt4
  refine hK _ _ (fun _ => s5) ?_
  clear hK K hS
  have hS := s5
  clear s4
  try simp only [Act.put, List.setIfInBounds_toArray, List.set_cons_zero, List.set_cons_succ]
  refine wpAnyM_take (i := 12) (v := ?_) rfl (by kernel_rfl) (by kernel_rfl) (by kernel_rfl) (by kernel_rfl) (fun _ _ _ h => h) hS (by rfl) ?_ ?_
  rotate_left
  · rintro W ⟨s1, -⟩
    go_simp
    try with_reducible rfl
  try simp only [Act.put, List.setIfInBounds_toArray, List.set_cons_zero, List.set_cons_succ]
  have m1 := hx5.c 2
  have m2 := hx5.f 2
  have hln : j + (ln - (j + 1)) = ln - 1 := by omega
  have HLN := Lib.hid hln
  clear hln
  refine wpAnyM_one (i := 13) (by kernel_rfl) rfl (fun K hK => ?_)
  go_simp
  refine hK _ _ (fun h => absurd rfl h) ?_
  clear hK K hS s5
  try simp only [Act.put, List.setIfInBounds_toArray, List.set_cons_zero, List.set_cons_succ]
  refine wpAnyM_done (by kernel_rfl) ?_ _
  have hown6 := Hown5.out
  rw [HLN.out] at hown6
  have Hown6 := Lib.hid hown6
  clear hown6
  rw [HLN.out]
  have y0 := hx5.set 2 (.slice A5 (ln - 1) c5)
  have y1 := (C1.out.below Hb5.out).far (p := ⟨w.heap.size, 2, none⟩) (by show w.heap.size + 1 ≠ w.heap.size; omega) (.slice A5 (ln - 1) c5)
  have y2 := (C2.out.below Hb5.out).far (p := ⟨w.heap.size, 2, none⟩) (by show w.heap.size + 1 + 1 ≠ w.heap.size; omega) (.slice A5 (ln - 1) c5)
  have y3 := (X3.out.below Hb5.out).far (p := ⟨w.heap.size, 2, none⟩) (by have := Hz3.out.1; show w1.heap.size ≠ w.heap.size; omega) (.slice A5 (ln - 1) c5)
  obtain ⟨W5, hW5⟩ : ∃ W5, W5 = w5.setCell ⟨w.heap.size, 2, none⟩ (.slice A5 (ln - 1) c5) := ⟨_, rfl⟩
  rw [← hW5] at y0 y1 y2 y3 ⊢
  obtain ⟨p0, p1, p2, p3, -⟩ := Bx.c4 (a := .int .i64 lim) (b := .int .i64 last) (c := .slice A5 (ln - 1) c5) (d := .slice CA cn cc) y0
  obtain ⟨q0, q1, q2, q3, u0, u1, u2, u3⟩ := y1.c4
  obtain ⟨r0, r1, r2, r3, t0, t1, t2, t3⟩ := y2.c4
  obtain ⟨x0, x1, x2, x3, -⟩ := y3.c4
  have HW5 := Lib.hid hW5
  have Y1 := Lib.hid y1
  have Y2 := Lib.hid y2
  have hn1 : w1.heap.size ≠ w.heap.size + 1 := by have := Hz3.out.1; omega
  have hn2 : w1.heap.size ≠ w.heap.size + 1 + 1 := by have := Hz3.out.1; omega
  have hn3 : ¬ w.heap.size + 1 = w1.heap.size := fun h => hn1 h.symm
  have hn4 : ¬ w.heap.size + 1 + 1 = w1.heap.size := fun h => hn2 h.symm
  have hn5 : ¬ w1.heap.size = w.heap.size + 1 := hn1
  have hn6 : ¬ w1.heap.size = w.heap.size + 1 + 1 := hn2
  clear hx4 hx5 m1 m2 y0 y1 y2 y3 hW5 v2 e9 hn1 hn2
  go_wp2_with fail
  go_region
  all_goals
    go_wp2_with fail
    refine bodyPost_ret (by simp [results, Tryd.results15, go_sem, q0, q1, q2, q3, r0, r1, r2, r3]; rfl) rfl ?_
    have hb7 : Below w.heap.size w W5 := by rw [HW5.out]; exact (Hb3.out.trans (Hb5.out.mono (by have := Hz3.out; omega))).setCell (Nat.le_refl _) _
    have hB3 : w.heap.size + 3 ≤ W3.heap.size := by have := Hz3.out; omega
    have hend := fun W' h1 h2 => takeR_end (W' := W') (y := y) Hrl.out Hown6.out hB3 Hc1.out hjn ⟨rfl, hn1⟩ h1 h2
    have h5 : ∀ b, w.heap.size + 3 ≤ b → W5.heap[b]? = w5.heap[b]? := fun b hb => by
      rw [HW5.out]
      exact Below.heap_setCell _ _ _ b (by show b ≠ w.heap.size; omega)
    have Hend := Lib.hid hend
    have H5 := Lib.hid h5
    clear hend h5
    refine Hend.out _ ?_ ?_
    · intro b hb
      have hg1 : b ≠ w.heap.size + 1 := by omega
      have hg2 : b ≠ w.heap.size + 1 + 1 := by omega
      rw [drew_heap]
      first | rw [four_heap hg2, four_heap hg1] | rw [four_heap hg1, four_heap hg2]
      exact H5.out b hb
    · exact (below_four (below_four hb7 (by omega) _ _ _ _) (by omega) _ _ _ _).drew
end Go.Proofs.YtckpinnnmafdgaaDoor
