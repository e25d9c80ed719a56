/- The document's Put, where something is put. -/
import Derived.Test.YtckpinnnmafdgaaDoorRfP
import Derived.Test.YtckpinnnmafdgaaDoorHeldM
import Derived.Deep.RegionLaw
namespace Go.Proofs.YtckpinnnmafdgaaDoor
open Go.RowKit
set_option maxRecDepth 100000
set_option linter.unusedVariables false
set_option linter.unusedSimpArgs false
theorem ritem_elem : Elem Tryd.prog 50 (.agg #[.int .i64 0, .int .i64 0, .int .i64 0, .slice none 0 0]) 4 48 := by unfold Elem; kernel_rfl
def PutRN (w : World) (ok : Nat → Prop) (r : Rn) (a b : Int) (Ad : Option Addr) (nd cd : Nat) (d : List UInt8) (e : Ending) (w' : World) : Prop := ∃ LA' lc', e = .returned (.tuple #[rnA { r with last := r.last + 1, LA := LA', ln := r.ln + 1, lc := lc', l := r.l ++ [⟨r.last + 1, a, b, Ad, nd, cd, d⟩] }, .int .i64 (r.last + 1), .int .i64 0]) ∧ RN w' (fun b => ok b ∨ w.heap.size ≤ b) { r with last := r.last + 1, LA := LA', ln := r.ln + 1, lc := lc', l := r.l ++ [⟨r.last + 1, a, b, Ad, nd, cd, d⟩] } ∧ (LA' = none → lc' = 0) ∧ Below w.heap.size w w'
set_option maxHeartbeats 3200000 in
theorem putR_new (r : Rn) (a b : Int) (Ad : Option Addr) (nd cd : Nat) (d : List UInt8) (w : World) {ok : Nat → Prop} (hr : RN w ok r) (hnd : nd ≤ 5000) (hd : Rd w ok 1 Ad nd (bs d)) (ha : okP a = true) (hb : okP b = true) (hq : cutB r.cuts a b = false) (hl : (r.ln : Int) < r.lim) (hlim : r.lim ≤ 4096) (l1 : 0 ≤ r.last) (l2 : r.last ≤ 1000000) (hnn : r.LA = none → r.lc = 0) :
    Calls Tryd.prog 19 #[rnA r, .int .i64 a, .int .i64 b, .slice Ad nd cd] w (PutRN w ok r a b Ad nd cd d) := by
  have hpa := fun W => placeR_any a W
  have hpb := fun W => placeR_any b W
  have hcut := fun W (hW : Below w.heap.size w W) => cutR_any r a b W (hr.below hW)
  rw [ha] at hpa
  rw [hb] at hpb
  rw [hq] at hcut
  have hn := hr.n1
  have hlen := hr.len
  have hrl := hr.lt
  have hdl := hd.lt (by omega)
  obtain ⟨lim, last, LA, ln, lc, l, CA, cn, cc, cuts⟩ := r
  unfold rnA at hcut ⊢
  dsimp only at hcut hn hl hlim l1 l2 hlen hnn ⊢
  obtain ⟨W0, hW0⟩ : ∃ W0, W0 = (w.alloc (.cells #[.int .i64 lim, .int .i64 last, .slice LA ln lc, .slice CA cn cc] 46)).alloc (.cells #[.int .i64 0, .int .i64 0, .slice none 0 0, .slice none 0 0] 46) := ⟨_, rfl⟩
  have b0 : Bx W0 w.heap.size #[.int .i64 lim, .int .i64 last, .slice LA ln lc, .slice CA cn cc] := by subst hW0; exact (Bx.new _ _ _ rfl).alloc _
  have b1 : Bx W0 (w.heap.size + 1) #[.int .i64 0, .int .i64 0, .slice none 0 0, .slice none 0 0] := by subst hW0; exact Bx.new _ _ _ (by simp)
  have hbe : Below w.heap.size w W0 := by subst hW0; exact ((Below.refl _ _).alloc (Nat.le_refl _) _).alloc (by simp) _
  have hz0 : W0.heap.size = w.heap.size + 2 := by subst hW0; simp
  have hnd' : ¬ ((1048576 : Int) < nd) := by omega
  obtain ⟨k0, k1, k2, k3, -⟩ := b0.c4
  obtain ⟨r0, r1, r2, r3, f0, f1, f2, f3⟩ := b1.c4
  have Ha := Lib.hid hpa
  have Hb := Lib.hid hpb
  have Hcut := Lib.hid hcut
  have B0 := Lib.hid b0
  have B1 := Lib.hid b1
  have Hbe := Lib.hid hbe
  have HW := Lib.hid hW0
  have Hrl := Lib.hid hrl
  have Hdl := Lib.hid hdl
  have Hlen := Lib.hid hlen
  have Hz0 := Lib.hid hz0
  have Hnn := Lib.hid hnn
  have Hc1 := Lib.hid hr.c1
  clear hpa hpb hcut hr b0 b1 hbe hW0 ha hb hq hrl hdl hd hlen hz0 hnn
  go_enter Tryd.func19, Tryd.ntmps19
  go_wp2_with fail
  rw [← HW.out]
  refine (Ha.out _).mono ?_
  rintro e w1 ⟨rfl, rfl⟩
  go_wp2_with fail
  refine (Hb.out _).mono ?_
  rintro e w1 ⟨rfl, rfl⟩
  go_wp2_with fail
  refine (Hcut.out _ Hbe.out).mono ?_
  rintro e w2 ⟨rfl, hb2⟩
  clear k0 k1 k2 k3 r0 r1 r2 r3 f0 f1 f2 f3
  have hb3 := Hbe.out.trans (hb2.mono Hbe.out.size)
  obtain ⟨k0, k1, k2, k3, g0, g1, g2, g3⟩ := (B0.out.below hb2).c4
  have hls : IntKind.i64.wrap (last + 1) = last + 1 := by rw [IntKind.wrap_i64]; omega
  have hlt : ¬ lim ≤ (ln : Int) := by omega
  have hsz2 := hb2.size
  have hz0 := Hz0.out
  have c0 := (B0.out.below hb2).set 1 (.int .i64 (last + 1))
  have c1 : Bx (w2.setCell ⟨w.heap.size, 1, none⟩ (.int .i64 (last + 1))) (w.heap.size + 1) _ := (B1.out.below hb2).far (by show w.heap.size + 1 ≠ w.heap.size; omega) _
  obtain ⟨W3, hW3⟩ : ∃ W3, W3 = w2.setCell ⟨w.heap.size, 1, none⟩ (.int .i64 (last + 1)) := ⟨_, rfl⟩
  rw [← hW3] at c0 c1
  have hb4 : Below w.heap.size w W3 := by rw [hW3]; exact hb3.setCell (Nat.le_refl _) _
  have hz3 : w.heap.size + 2 ≤ W3.heap.size := by rw [hW3]; simp [World.setCell]; omega
  have C0 := Lib.hid c0
  have C1 := Lib.hid c1
  have HW3 := Lib.hid hW3
  have Hb4 := Lib.hid hb4
  have Hz3 := Lib.hid hz3
  have hit : Rd W3.drew (fun b => ok b ∧ b < w.heap.size) 4 LA ln (flat icell l) := (Hrl.out.it.below hb4).drew
  obtain ⟨A9, e9, r9, z9⟩ : ∃ A9, (∀ W, (Instr.sliceAt 43 (.slice LA ln lc) none (some (.int .i64 (ln : Int))) (some (.int .i64 (ln : Int)))).run Tryd.prog W = .ok (.slice A9 ln ln) W) ∧ Rd W3.drew (fun b => ok b ∧ b < w.heap.size) 4 A9 ln (flat icell l) ∧ (A9 = none → ln = 0) :=
    ⟨_, fun W => run_slice_hm' (P := Tryd.prog) 43 Tryd.underlying43 (size := 4) (by kernel_rfl) LA ln lc ln ln (Nat.le_refl _) Hc1.out.1 W, hit.hm ln, fun h => by
      split at h
      · assumption
      · have h1 := Hnn.out (by simpa using h)
        have := Hc1.out.1
        omega⟩
  have R9 := Lib.hid r9
  have Z9 := Lib.hid z9
  have v1 : W3.drew.cell? ⟨w.heap.size, 1, none⟩ = some (.int .i64 (last + 1)) := c0.c 1
  have v2 : W3.drew.cell? ⟨w.heap.size, 2, none⟩ = some (.slice LA ln lc) := c0.c 2
  have v1b : ∀ ob, (W3.alloc ob).cell? ⟨w.heap.size, 1, none⟩ = some (.int .i64 (last + 1)) := fun ob => (c0.alloc ob).c 1
  have v2b : ∀ ob, (W3.alloc ob).cell? ⟨w.heap.size, 2, none⟩ = some (.slice LA ln lc) := fun ob => (c0.alloc ob).c 2
  have v1a : ∀ ob, (W3.drew.alloc ob).cell? ⟨w.heap.size, 1, none⟩ = some (.int .i64 (last + 1)) := fun ob => (c0.drew.alloc ob).c 1
  have v2a : ∀ ob, (W3.drew.alloc ob).cell? ⟨w.heap.size, 2, none⟩ = some (.slice LA ln lc) := fun ob => (c0.drew.alloc ob).c 2
  clear hb2 hb3 c0 c1 hW3 hb4 hz3 hit r9 z9 hz0 hsz2
  go_upto_region 10 with (fail)
  rw [← HW3.out]
  clear k0 k1 k2 k3 g0 g1 g2 g3
  have s0 : W3.drew.cell? ⟨w.heap.size, 1, none⟩ = some (.int .i64 (last + 1)) ∧ W3.drew.cell? ⟨w.heap.size, 2, none⟩ = some (.slice LA ln lc) ∧ Below W3.heap.size W3 W3.drew := ⟨v1, v2, (Below.refl _ _).drew⟩
  refine wp_region_M 18 (fun W => W.cell? ⟨w.heap.size, 1, none⟩ = some (.int .i64 (last + 1)) ∧ W.cell? ⟨w.heap.size, 2, none⟩ = some (.slice LA ln lc) ∧ Below W3.heap.size W3 W) (by kernel_rfl) s0 (fun hS => ?_)
  refine wpAnyM_take (i := 0) (v := ?_) rfl (by kernel_rfl) (by kernel_rfl) (by kernel_rfl) (by kernel_rfl) (fun _ _ _ h => h) hS (by rfl) ?_ ?_
  rotate_left
  · rintro W ⟨s1, s2, -⟩
    go_simp
    try with_reducible rfl
  try simp only [Act.put, List.setIfInBounds_toArray, List.set_cons_zero, List.set_cons_succ]
  refine wpAnyM_take (i := 1) (v := ?_) rfl (by kernel_rfl) (by kernel_rfl) (by kernel_rfl) (by kernel_rfl) (fun _ _ _ h => h) hS (by rfl) ?_ ?_
  rotate_left
  · rintro W ⟨s1, s2, -⟩
    go_simp
    try with_reducible rfl
  try simp only [Act.put, List.setIfInBounds_toArray, List.set_cons_zero, List.set_cons_succ]
  refine wpAnyM_take (i := 2) (v := ?_) rfl (by kernel_rfl) (by kernel_rfl) (by kernel_rfl) (by kernel_rfl) (fun _ _ _ h => h) hS (by rfl) ?_ ?_
  rotate_left
  · rintro W ⟨s1, s2, -⟩
    go_simp
    try with_reducible rfl
  try simp only [Act.put, List.setIfInBounds_toArray, List.set_cons_zero, List.set_cons_succ]
  refine wpAnyM_take (i := 3) (v := ?_) rfl (by kernel_rfl) (by kernel_rfl) (by kernel_rfl) (by kernel_rfl) (fun _ _ _ h => h) hS (by rfl) ?_ ?_
  rotate_left
  · rintro W ⟨s1, s2, -⟩
    go_simp
    try with_reducible rfl
  try simp only [Act.put, List.setIfInBounds_toArray, List.set_cons_zero, List.set_cons_succ]
  refine wpAnyM_take (i := 4) (v := ?_) rfl (by kernel_rfl) (by kernel_rfl) (by kernel_rfl) (by kernel_rfl) (fun _ _ _ h => h) hS (by rfl) ?_ ?_
  rotate_left
  · rintro W ⟨s1, s2, -⟩
    go_simp
    try with_reducible rfl
  try simp only [Act.put, List.setIfInBounds_toArray, List.set_cons_zero, List.set_cons_succ]
  refine wpAnyM_take (i := 5) (v := ?_) rfl (by kernel_rfl) (by kernel_rfl) (by kernel_rfl) (by kernel_rfl) (fun _ _ _ h => h) hS (by rfl) ?_ ?_
  rotate_left
  · rintro W ⟨s1, s2, -⟩
    go_simp
    try with_reducible rfl
  try simp only [Act.put, List.setIfInBounds_toArray, List.set_cons_zero, List.set_cons_succ]
  refine wpAnyM_take (i := 6) (v := ?_) rfl (by kernel_rfl) (by kernel_rfl) (by kernel_rfl) (by kernel_rfl) (fun _ _ _ h => h) hS (by rfl) ?_ ?_
  rotate_left
  · rintro W ⟨s1, s2, -⟩
    go_simp
    try with_reducible rfl
  try simp only [Act.put, List.setIfInBounds_toArray, List.set_cons_zero, List.set_cons_succ]
  refine wpAnyM_take (i := 7) (v := ?_) rfl (by kernel_rfl) (by kernel_rfl) (by kernel_rfl) (by kernel_rfl) (fun _ _ _ h => h) hS (by rfl) ?_ ?_
  rotate_left
  · rintro W ⟨s1, s2, -⟩
    go_simp
    try with_reducible rfl
  try simp only [Act.put, List.setIfInBounds_toArray, List.set_cons_zero, List.set_cons_succ]
  refine wpAnyM_take (i := 8) (v := ?_) rfl (by kernel_rfl) (by kernel_rfl) (by kernel_rfl) (by kernel_rfl) (fun _ _ _ h => h) hS (by rfl) ?_ ?_
  rotate_left
  · rintro W ⟨s1, s2, -⟩
    go_simp
    try with_reducible rfl
  try simp only [Act.put, List.setIfInBounds_toArray, List.set_cons_zero, List.set_cons_succ]
  refine wpAnyM_take (i := 9) (v := ?_) rfl (by kernel_rfl) (by kernel_rfl) (by kernel_rfl) (by kernel_rfl) (fun _ _ _ h => h) hS (by rfl) ?_ ?_
  rotate_left
  · rintro W ⟨s1, s2, -⟩
    go_simp
    try with_reducible rfl
  try simp only [Act.put, List.setIfInBounds_toArray, List.set_cons_zero, List.set_cons_succ]
  refine wpAnyM_take (i := 10) (v := ?_) rfl (by kernel_rfl) (by kernel_rfl) (by kernel_rfl) (by kernel_rfl) (fun _ _ _ h => h) hS (by rfl) ?_ ?_
  rotate_left
  · rintro W ⟨s1, s2, -⟩
    go_simp
    try with_reducible rfl
  try simp only [Act.put, List.setIfInBounds_toArray, List.set_cons_zero, List.set_cons_succ]
  refine wpAnyM_take (i := 11) (v := ?_) rfl (by kernel_rfl) (by kernel_rfl) (by kernel_rfl) (by kernel_rfl) (fun _ _ _ h => h) hS (by rfl) ?_ ?_
  rotate_left
  · rintro W ⟨s1, s2, -⟩
    go_simp
    try with_reducible rfl
  try simp only [Act.put, List.setIfInBounds_toArray, List.set_cons_zero, List.set_cons_succ]
  refine wpAnyM_take (i := 12) (v := ?_) rfl (by kernel_rfl) (by kernel_rfl) (by kernel_rfl) (by kernel_rfl) (fun _ _ _ h => h) hS (by rfl) ?_ ?_
  rotate_left
  · rintro W ⟨s1, s2, -⟩
    go_simp
    try with_reducible rfl
  try simp only [Act.put, List.setIfInBounds_toArray, List.set_cons_zero, List.set_cons_succ]
  refine wpAnyM_take (i := 13) (v := ?_) rfl (by kernel_rfl) (by kernel_rfl) (by kernel_rfl) (by kernel_rfl) (fun _ _ _ h => h) hS (by rfl) ?_ ?_
  rotate_left
  · rintro W ⟨s1, s2, -⟩
    go_simp
    try with_reducible rfl
  try simp only [Act.put, List.setIfInBounds_toArray, List.set_cons_zero, List.set_cons_succ]
  refine wpAnyM_take (i := 14) (v := ?_) rfl (by kernel_rfl) (by kernel_rfl) (by kernel_rfl) (by kernel_rfl) (fun _ _ _ h => h) hS (by rfl) ?_ ?_
  rotate_left
  · rintro W ⟨s1, s2, -⟩
    go_simp
    try with_reducible rfl
  try simp only [Act.put, List.setIfInBounds_toArray, List.set_cons_zero, List.set_cons_succ]
  refine wpAnyM_one (i := 15) (by kernel_rfl) rfl (fun K hK => ?_)
  go_simp
  refine hK _ _ (fun _ => ⟨v1a _, v2a _, (Below.refl _ _).drew.alloc (Nat.le_refl _) _⟩) ?_
  clear hK K
  try simp only [Act.put, List.setIfInBounds_toArray, List.set_cons_zero, List.set_cons_succ]
  refine wpAnyM_one (i := 16) (by kernel_rfl) rfl (fun K hK => ?_)
  refine step_append_full (news := [.int .i64 (last + 1), .int .i64 a, .int .i64 b, .slice Ad nd cd]) _ Tryd.underlying43 ritem_elem rfl (by omega) rfl rfl rfl (R9.out.alloc _) Z9.out rfl (Rd.blit rfl).any (by omega) (by intro u hu; simp only [List.mem_cons, List.not_mem_nil, or_false] at hu; rcases hu with rfl | rfl | rfl | rfl <;> rfl) (by omega) (by omega) rfl rfl ?_
  intro A4 c4 w4 hown4 hb5
  have hx4 := (C0.out.drew.alloc _).below hb5
  have hb6 := ((Below.refl W3.heap.size W3).drew.alloc (Nat.le_refl _) (.cells #[.int .i64 (last + 1), .int .i64 a, .int .i64 b, .slice Ad nd cd] 50)).trans (hb5.mono (by simp))
  have s4 : w4.cell? ⟨w.heap.size, 1, none⟩ = some (.int .i64 (last + 1)) ∧ w4.cell? ⟨w.heap.size, 2, none⟩ = some (.slice LA ln lc) ∧ Below W3.heap.size W3 w4 := ⟨hx4.c 1, hx4.c 2, hb6⟩
  refine hK _ _ (fun _ => s4) ?_
  clear hK K hS
  have hS := s4
  try simp only [Act.put, List.setIfInBounds_toArray, List.set_cons_zero, List.set_cons_succ]
  refine wpAnyM_take (i := 17) (v := ?_) rfl (by kernel_rfl) (by kernel_rfl) (by kernel_rfl) (by kernel_rfl) (fun _ _ _ h => h) hS (by rfl) ?_ ?_
  rotate_left
  · rintro W ⟨s1, s2, -⟩
    go_simp
    try with_reducible rfl
  try simp only [Act.put, List.setIfInBounds_toArray, List.set_cons_zero, List.set_cons_succ]
  have m1 := hx4.c 2
  have m2 := hx4.f 2
  refine wpAnyM_one (i := 18) (by kernel_rfl) rfl (fun K hK => ?_)
  go_simp
  refine hK _ _ (fun h => absurd rfl h) ?_
  clear hK K
  try simp only [Act.put, List.setIfInBounds_toArray, List.set_cons_zero, List.set_cons_succ]
  refine wpAnyM_done (by kernel_rfl) ?_ _
  have y0 := hx4.set 2 (.slice A4 (ln + 1) c4)
  have y1 := ((C1.out.drew.alloc (.cells #[.int .i64 (last + 1), .int .i64 a, .int .i64 b, .slice Ad nd cd] 50)).below hb5).far (p := ⟨w.heap.size, 2, none⟩) (by show w.heap.size + 1 ≠ w.heap.size; omega) (.slice A4 (ln + 1) c4)
  obtain ⟨W5, hW5⟩ : ∃ W5, W5 = w4.setCell ⟨w.heap.size, 2, none⟩ (.slice A4 (ln + 1) c4) := ⟨_, rfl⟩
  rw [← hW5] at y0 y1 ⊢
  obtain ⟨p0, p1, p2, p3, -⟩ := Bx.c4 (a := .int .i64 lim) (b := .int .i64 (last + 1)) (c := .slice A4 (ln + 1) c4) (d := .slice CA cn cc) y0
  obtain ⟨q0, q1, q2, q3, u0, u1, u2, u3⟩ := y1.c4
  have HW5 := Lib.hid hW5
  have Hown4 := Lib.hid hown4
  have Hb6 := Lib.hid hb6
  have Hb5 := Lib.hid hb5
  clear hS s0 s4 hx4 m1 m2 y0 y1 hW5 hown4 hb6 hb5 v1 v2 v1a v2a v1b v2b e9 R9 Z9
  go_wp2_with fail
  go_region
  all_goals
    go_wp2_with fail
    refine bodyPost_ret (by simp [results, Tryd.results19, go_sem, q0, q1, q2, q3]; rfl) rfl ?_
    have hbW := Hb4.out.trans (Hb6.out.mono (by have := Hz3.out; omega))
    have hb7 : Below w.heap.size w W5 := by rw [HW5.out]; exact hbW.setCell (Nat.le_refl _) _
    have hbe := below_four hb7.drew (show w.heap.size ≤ w.heap.size + 1 by omega) (.int .i64 lim) (.int .i64 (last + 1)) (.slice A4 (ln + 1) c4) (.slice CA cn cc)
    have hk : ∀ b, b < w.heap.size → _ := fun b hb => hbe.block b hb
    refine ⟨A4, c4, rfl, ⟨?_, fun x hx => ?_, ?_, ?_, ?_, Hrl.out.n2⟩, ?_, hbe⟩
    · have h0 := (Rd.of_own Hown4.out).mono (ok' := fun b => w.heap.size + 2 ≤ b) (fun b hb => by have := Hz3.out; simp at hb; omega)
      have h1 := h0.setCell (p := ⟨w.heap.size, 2, none⟩) (by show ¬ w.heap.size + 2 ≤ w.heap.size; omega) (.slice A4 (ln + 1) c4)
      rw [← HW5.out] at h1
      have h2 := (((h1.drew.setCell (p := ⟨w.heap.size + 1, 0, none⟩) (by show ¬ w.heap.size + 2 ≤ w.heap.size + 1; omega) (.int .i64 lim)).setCell (p := ⟨w.heap.size + 1, 1, none⟩) (by show ¬ w.heap.size + 2 ≤ w.heap.size + 1; omega) (.int .i64 (last + 1))).setCell (p := ⟨w.heap.size + 1, 2, none⟩) (by show ¬ w.heap.size + 2 ≤ w.heap.size + 1; omega) (.slice A4 (ln + 1) c4)).setCell (p := ⟨w.heap.size + 1, 3, none⟩) (by show ¬ w.heap.size + 2 ≤ w.heap.size + 1; omega) (.slice CA cn cc)
      have h3 := h2.mono (ok' := fun b => ok b ∨ w.heap.size ≤ b) (fun b hb => .inr (by omega))
      rw [flat_append, flat_one]
      exact h3
    · rcases List.mem_append.1 hx with hx | hx
      · have := Hrl.out.dt x hx
        exact ⟨(this.1.keep fun b hb _ => hk b hb.2).mono fun b hb => .inl hb.1, this.2⟩
      · obtain rfl := List.mem_singleton.1 hx
        exact ⟨(Hdl.out.keep fun b hb _ => hk b hb.2).mono fun b hb => .inl hb.1, hnd⟩
    · exact (Hrl.out.ct.keep fun b hb _ => hk b hb.2).mono fun b hb => .inl hb.1
    · obtain ⟨A', c', e1, e2, e3⟩ := own_form Hown4.out
      injection e1 with e1 e1' e1''
      subst e1''
      exact ⟨e2, e3⟩
    · show ln + 1 ≤ 4096
      omega
    · intro hA
      rcases Hown4.out.2 with ⟨h1, _⟩ | ⟨g, cap, cur, h1, _⟩
      · injection h1
      · injection h1 with h1
        rw [hA] at h1
        cases h1
end Go.Proofs.YtckpinnnmafdgaaDoor
