/- The walk of the document's Start. -/
import Derived.Test.YtefhkhocbcnbcaaDoorR3S
namespace Go.Proofs.YtefhkhocbcnbcaaDoor
open Go.RowKit
set_option maxRecDepth 100000
set_option linter.unusedVariables false
set_option linter.unusedSimpArgs false
def Start3Post (W : World) (ok : Nat → Prop) (R' : R3) (e : Ending) (w' : World) : Prop := ∃ v, e = .returned v ∧ RX w' (fun b => ok b ∨ W.heap.size ≤ b) v R' ∧ Below W.heap.size W w'
theorem flat_take2 (l : List Wq) (M : Nat) : flat wcell (l.take M) = (flat wcell l).take (M * 2) := flat_take wcell_len l M
section
variable {ok : Nat → Prop} {R : R3} {BA LA : Option Addr} {bn bc ln lc : Nat} {ls : List Wq}
set_option maxHeartbeats 3200000 in
theorem start3_any (K : Option Addr) (kn kc : Nat) (keep : List Int) (w : World) (h : RS w ok R BA bn bc LA ln lc ls) (hf : Fit bn R.l) (hbn : bn ≤ 4194304) (hln : ln ≤ 100000) (hr : Rd w T 1 K kn (ii keep)) (hk : ∀ x ∈ keep, I64 x) :
    Calls Tryd.prog 24 #[rval R BA bn bc LA ln lc, .slice K kn kc] w (Start3Post w ok (R.start keep)) := by
  have hb0 : Below w.heap.size w ((w.alloc (.cells #[.slice BA bn bc, .slice LA ln lc, .int .i64 R.armed, .bool R.off] 31)).alloc (.cells #[.slice none 0 0, .slice none 0 0, .int .i64 0, .bool false] 31)) := ((Below.refl _ _).alloc (Nat.le_refl _) _).alloc (by simp) _
  obtain ⟨W0, hW0⟩ : ∃ W0, W0 = ((w.alloc (.cells #[.slice BA bn bc, .slice LA ln lc, .int .i64 R.armed, .bool R.off] 31)).alloc (.cells #[.slice none 0 0, .slice none 0 0, .int .i64 0, .bool false] 31)) := ⟨_, rfl⟩
  have x0 : Bx W0 w.heap.size #[.slice BA bn bc, .slice LA ln lc, .int .i64 R.armed, .bool R.off] := by subst hW0; exact (Bx.new _ _ _ rfl).alloc _
  have x1 : Bx W0 (w.heap.size + 1) #[.slice none 0 0, .slice none 0 0, .int .i64 0, .bool false] := by subst hW0; exact Bx.new _ _ _ (by simp)
  have hz0 : W0.heap.size = w.heap.size + 2 := by rw [hW0]; simp
  rw [← hW0] at hb0
  have X0 := Lib.hid x0
  have X1 := Lib.hid x1
  have Hb0 := Lib.hid hb0
  have HW0 := Lib.hid hW0
  have H := Lib.hid h
  have hll := h.llen
  have hql := h.qlen
  have hlcc := h.lc
  obtain ⟨M, hM⟩ : ∃ M, M = restL keep 0 (ln + 1) := ⟨_, rfl⟩
  have hMn : M ≤ ln := by rw [hM]; exact restL_lt
  have hr0 : Calls Tryd.prog 35 #[.slice K kn kc, .int .i64 0, .int .i64 ((ln : Int) + 1)] W0 (fun e w' => e = .returned (.int .i64 (M : Nat)) ∧ w' = W0) := by
    rw [hM]
    exact rest3_any K kn kc keep 0 ln W0 (hr.below hb0) hk (by omega) (by omega)
  obtain ⟨S, hS⟩ : ∃ S, S = lain R.b (keptQ R.l keep) := ⟨_, rfl⟩
  have hnow : ∀ (W : World) (A2 : Option Addr) (n2 c2 : Nat) (ls2 : List Wq), Below w.heap.size w W → ls2.map wq = keptQ R.l keep → (∀ y ∈ ls2, Rd w ok 1 y.A y.n (bs y.d) ∧ y.n ≤ y.m ∧ y.m ≤ maxLen) → Rd W (w.heap.size + 2 ≤ ·) 2 A2 n2 (flat wcell ls2) → n2 ≤ c2 ∧ c2 ≤ maxLen → n2 ≤ ln →
      Calls Tryd.prog 33 #[.agg #[.slice BA bn bc, .slice A2 n2 c2, .int .i64 R.armed, .bool R.off]] W (NowPost W S bn) := by
    intro W A2 n2 c2 ls2 hb hq hd hr2 hc2 hn2
    have hh := H.out.below (ok := ok) hb
    have := now3_any (R := { R with l := keptQ R.l keep }) (BA := BA) (bn := bn) (bc := bc) (LA := A2) (ln := n2) (lc := c2) (ls := ls2) (ok := fun b => ok b ∨ w.heap.size ≤ b) W ⟨hh.b.mono fun _ hb => .inl hb, hr2.mono fun b hb => .inr (by omega), fun y hy => ⟨((hd y hy).1.below hb).mono fun _ hb => .inl hb, (hd y hy).2⟩, hq, hh.bc, hc2⟩ (keptQ_fit hf) hbn (by omega)
    rw [hS]
    exact this
  have hend : ∀ (W : World) (A3 : Option Addr) (c3 : Nat), Below w.heap.size w W → Rd W (w.heap.size + 2 ≤ ·) 1 A3 bn (bs S) → bn ≤ c3 ∧ c3 ≤ maxLen → Start3Post w ok (R.start keep) (.returned (.agg #[.slice A3 bn c3, .slice none 0 0, .int .i64 (-1), .bool false])) W := by
    intro W A3 c3 hb hr3 hc3
    refine ⟨_, rfl, ⟨A3, bn, c3, none, 0, 0, [], rfl, ⟨?_, Rd.none_, (fun y hy => by cases hy), rfl, hc3, by omega⟩⟩, hb⟩
    show Rd _ _ 1 _ _ (bs (lain R.b (keptQ R.l keep)))
    rw [← hS]
    exact hr3.mono fun b hb => .inr (by omega)
  have Hnow := Lib.hid hnow
  have Hend := Lib.hid hend
  have hsl : ∀ W : World, (Instr.sliceAt 29 (.slice LA ln lc) none (some (.int .i64 (M : Int))) none).run Tryd.prog W = .ok (.slice (if lc = 0 then LA else LA.map (·.add (0 * 2))) M lc) W := fun W => run_slice_hi (P := Tryd.prog) 29 Tryd.underlying29 (size := 2) (by kernel_rfl) LA ln lc W M (by omega)
  obtain ⟨L3, hL3⟩ : ∃ L3, L3 = (if lc = 0 then LA else LA.map (·.add (0 * 2))) := ⟨_, rfl⟩
  rw [← hL3] at hsl
  have hL : L3 = LA := by
    rw [hL3]
    split
    · rfl
    · cases LA with
      | none => rfl
      | some a => simp [Addr.add]
  have hl3 : Rd W0 ok 2 L3 M (flat wcell (ls.take M)) := by
    rw [hL, flat_take2]
    exact ((H.out.l.below hb0).take hMn)
  have Hl3 := Lib.hid hl3
  obtain ⟨y0, y1, y2, y3, g0, g1, g2, g3⟩ := x0.c4
  have Hr := Lib.hid hr
  have Hk := Lib.hid hk
  have HM := Lib.hid hM
  clear h hW0 x0 x1 hb0 hr hnow hend hl3 hL3 hS hL hM
  unfold rval
  go_enter Tryd.func24, Tryd.ntmps24
  go_wp2_with fail
  rw [← HW0.out]
  refine hr0.mono ?_
  rintro e w0 ⟨rfl, rfl⟩
  go_upto_if 24 with (at_builtin; go_must (refine wpList_append_any (news := flat wcell (ls.take M)) _ Tryd.underlying29 rw3_elem rfl (by omega) rfl rfl rfl (World.ownsRow_nil _ (w.heap.size + 2) 76 2) rfl Hl3.out (wcell_one _) (by omega) (by omega) (Nat.zero_add _) (List.nil_append _) ?_); intro A1 c1 w1 hown1 hg1 hat1; obtain ⟨q0, q1, q2, q3, e0, e1, e2, e3⟩ := (X0.out.grown hg1 (by simp)).c4; clear y0 y1 y2 y3 g0 g1 g2 g3)
  have hb1 : Below w.heap.size w w1 := Hb0.out.grown hg1 Hb0.out.size (by simp)
  have x0' := X0.out.grown hg1 (by simp)
  have x1' := X1.out.grown hg1 (by simp)
  have X0' := Lib.hid x0'
  have X1' := Lib.hid x1'
  have Hb1 := Lib.hid hb1
  have hb01 : Below w0.heap.size w0 w1 := (Below.refl _ _).grown hg1 (Nat.le_refl _) (by simp)
  have Hb01 := Lib.hid hb01
  have Hown1 := Lib.hid hown1
  have hz1 := hg1.size
  have hlcM := own_cap3 hown1
  clear hg1 hat1 hb1 x0' x1' hown1 hb01
  go_cut [6, 7] (fun s6 s7 W => ∃ A2 n2 c2, s6 = .slice A2 n2 c2 ∧ Below w0.heap.size w0 W ∧ Calls Tryd.prog 33 #[.agg #[.slice BA bn bc, .slice A2 n2 c2, .int .i64 R.armed, .bool R.off]] (W.setCell ⟨w.heap.size, 1, none⟩ (.slice A2 n2 c2)) (NowPost (W.setCell ⟨w.heap.size, 1, none⟩ (.slice A2 n2 c2)) S bn))
  case first =>
    by_cases hlt : M < ln
    · obtain ⟨b, o, x, rfl, hbok, hbl, hx, d0, d1⟩ := w_cells (H.out.l.below Hb1.out) hlt
      have hxd := H.out.d x (List.mem_of_getElem? hx)
      have hxn := hxd.1.blen
      have hq : R.l[M]? = some (x.p, x.d) := by rw [← H.out.q]; show (ls.map wq)[M]? = _; rw [List.getElem?_map, hx]; rfl
      have hfit := hf _ (List.mem_of_getElem? hq)
      dsimp only at hfit
      obtain ⟨r, hrr⟩ : ∃ r, r = restL keep 1 (x.n + 1) := ⟨_, rfl⟩
      have hrn : r ≤ x.n := by rw [hrr]; exact restL_lt
      obtain ⟨W5, hW5⟩ : ∃ W5, W5 = w1.alloc (.cells #[.int .i64 x.p, .slice x.A x.n x.m] 76) := ⟨_, rfl⟩
      have hb5 : Below w1.heap.size w1 W5 := by rw [hW5]; exact (Below.refl _ _).alloc (Nat.le_refl _) _
      have x5 : Bx W5 w1.heap.size #[.int .i64 x.p, .slice x.A x.n x.m] := by rw [hW5]; exact Bx.new _ _ _ rfl
      have hbw5 := Hb1.out.trans (hb5.mono Hb1.out.size)
      have hr1 : Calls Tryd.prog 35 #[.slice K kn kc, .int .i64 1, .int .i64 ((x.n : Int) + 1)] W5.drew (fun e w' => e = .returned (.int .i64 (r : Nat)) ∧ w' = W5.drew) := by
        rw [hrr]
        exact rest3_any K kn kc keep 1 x.n W5.drew ((Hr.out.below hbw5).drew) hk (by omega) (by omega)
      have hown5 : W5.drew.ownsRow (w.heap.size + 2) 76 2 (.slice A1 M c1) M (flat wcell (ls.take M)) := (own_below Hown1.out hb5).drew
      replace hown5 : W5.ownsRow (w.heap.size + 2) 76 2 (.slice A1 M c1) M (flat wcell (ls.take M)) := own_below Hown1.out hb5
      have hsl1 : ∀ W : World, (Instr.sliceAt 28 (.slice x.A x.n x.m) none (some (.int .i64 (r : Int))) none).run Tryd.prog W = .ok (.slice x.A r x.m) W := by
        intro W
        rw [run_slice_hi (P := Tryd.prog) 28 Tryd.underlying28 (size := 1) (by kernel_rfl) x.A x.n x.m W r (by omega)]
        congr 2
        split
        · rfl
        · cases x.A with
          | none => rfl
          | some a => simp [Addr.add]
      have v0 : W5.drew.cell? ⟨w1.heap.size, 0, none⟩ = some (.int .i64 x.p) := x5.c 0
      have v1 : W5.drew.cell? ⟨w1.heap.size, 1, none⟩ = some (.slice x.A x.n x.m) := x5.c 1
      have HW5 := Lib.hid hW5
      have Hx := Lib.hid hx
      have Hq := Lib.hid hq
      have Hrr := Lib.hid hrr
      have Hxd := Lib.hid hxd
      have Hbw5 := Lib.hid hbw5
      have wxn : IntKind.i64.wrap ((x.n : Int) + 1) = (x.n : Int) + 1 := by rw [IntKind.wrap_i64]; omega
      have hMI : (M : Int) < ln := by omega
      have h0M : (0 : Int) ≤ M := by omega
      have hbase : w.heap.size + 2 ≤ (W5.alloc (.cells #[.int .i64 x.p, .slice x.A r x.m] 76)).drew.heap.size := by
        have := hb5.size
        show _ ≤ (W5.alloc _).heap.size
        rw [World.size_alloc]
        omega
      clear hW5 hx hq hrr hxd hbw5 x5 hbok
      go_upto_region 6 with (fail)
      rw [← HW5.out]
      go_region_law (first
        | (rw [if_pos (by rfl)]; go_simp; go_at_call 35; refine hr1.mono ?_; rintro e w' ⟨rfl, rfl⟩)
        | ((refine step_append_any (w := (W5.alloc (.cells #[.int .i64 x.p, .slice x.A r x.m] 76)).drew) (news := [.int .i64 x.p, .slice x.A r x.m]) Tryd.underlying29 rw3_elem rfl (by omega) rfl rfl rfl (own_below hown5 ((Below.refl _ _).alloc (Nat.le_refl _) _)).drew rfl (Rd.wlit W5 76 (cs := #[.int .i64 x.p, .slice x.A r x.m]) (fr := (0, 0)) rfl).drew (by intro u hu; simp only [List.mem_cons, List.not_mem_nil, or_false] at hu; rcases hu with rfl | rfl <;> rfl) (by omega) hbase rfl rfl ?_); intro A4 c4 w4 hown4 hg4 hat4))
      all_goals
        go_wp2_with fail
        go_meet
        case rel =>
          have hbA : Below w0.heap.size w0 w4 := (((Hb01.out.trans (hb5.mono Hb01.out.size)).alloc (by have := hb5.size; omega) _).drew).grown hg4 (by have := hb5.size; simp; omega) (fun k hk => by have := (own_lt Hown1.out k hk); omega)
          refine ⟨A4, M + 1, c4, rfl, hbA, Hnow.out _ A4 (M + 1) c4 (ls.take M ++ [⟨x.p, x.A, r, x.m, x.d.take r⟩]) ?_ ?_ ?_ ?_ (own_cap3 hown4) (by omega)⟩
          · exact (Hb0.out.trans (hbA.mono Hb0.out.size)).setCell (Nat.le_refl _) _
          · unfold keptQ
            rw [hql, ← HM.out, Hq.out]
            dsimp only
            rw [hxn, ← Hrr.out, List.map_append, List.map_take, H.out.q]
            rfl
          · intro y hy
            rcases List.mem_append.1 hy with h1 | h1
            · exact H.out.d y (List.mem_of_mem_take h1)
            · obtain rfl := List.mem_singleton.1 h1
              obtain ⟨r1, r2, r3⟩ := Hxd.out
              have := r1.take hrn
              rw [Nat.mul_one, ← bs_take] at this
              exact ⟨this, Nat.le_trans hrn r2, r3⟩
          · rw [flat_append, flat_one]
            exact (Rd.of_own hown4).setCell (by show ¬ (w.heap.size + 2 ≤ w.heap.size); omega) _
    · obtain rfl : M = ln := by omega
      go_wp2_with fail
      go_meet
      case rel =>
        refine ⟨A1, M, c1, rfl, Hb01.out, Hnow.out _ A1 M c1 ls ?_ ?_ ?_ ?_ hlcM (Nat.le_refl _)⟩
        · exact Hb1.out.setCell (Nat.le_refl _) _
        · rw [H.out.q]
          unfold keptQ
          rw [hql, ← HM.out, List.getElem?_eq_none (by omega)]
        · exact H.out.d
        · have := Hown1.out
          rw [List.take_of_length_le (by omega)] at this
          exact (Rd.of_own this).setCell (by show ¬ (w.heap.size + 2 ≤ w.heap.size); omega) _
  case rest =>
    obtain ⟨A2, n2, c2, rfl, hbW, hcall⟩ := hcut
    obtain ⟨q0, q1, q2, q3, e0, e1, e2, e3⟩ := (X0.out.below hbW).c4
    have hbw := Hb0.out.trans (hbW.mono Hb0.out.size)
    have x5 := (X1.out.below hbW).far (p := ⟨w.heap.size, 1, none⟩) (by show w.heap.size + 1 ≠ w.heap.size; omega) (.slice A2 n2 c2)
    have hb5 : Below w.heap.size w (wc.setCell ⟨w.heap.size, 1, none⟩ (.slice A2 n2 c2)) := hbw.setCell (Nat.le_refl _) _
    have hz5 : w.heap.size + 2 ≤ (wc.setCell ⟨w.heap.size, 1, none⟩ (.slice A2 n2 c2)).heap.size := by
      have := hbW.size
      simp [World.setCell]
      omega
    have X5 := Lib.hid x5
    have Hb5 := Lib.hid hb5
    have Hc := Lib.hid hcall
    clear hbw x5 hb5 hcall hbW
    go_wp2_with fail
    refine Hc.out.mono ?_
    rintro e w6 ⟨A3, c3, rfl, hown3, hb6⟩
    obtain ⟨z0, z1, z2, z3, f0, f1, f2, f3⟩ := (X5.out.below hb6).c4
    have hb7 := Hb5.out.trans (hb6.mono Hb5.out.size)
    have Hb7 := Lib.hid hb7
    have r6 : Rd w6 (w.heap.size + 2 ≤ ·) 1 A3 bn (bs S) := (Rd.of_own hown3).mono fun b hb => Nat.le_trans hz5 hb
    have R6 := Lib.hid r6
    have Hcap := Lib.hid (own_cap3 hown3)
    clear hb6 hb7 r6 hown3 q0 q1 q2 q3 e0 e1 e2 e3
    go_wp2_with fail
    refine bodyPost_ret (by simp [results, Tryd.results24, go_sem, z0, z1, z2, z3]; rfl) rfl ?_
    refine Hend.out _ A3 c3 ?_ ?_ Hcap.out
    · have q : ∀ W k i v, Below w.heap.size w W → w.heap.size ≤ k → Below w.heap.size w (W.setCell ⟨k, i, none⟩ v) := fun W k i v h hk => h.setCell (by exact hk) v
      repeat (refine q _ _ _ _ ?_ (by omega))
      exact Hb7.out
    · have q : ∀ W k i v, Rd W (w.heap.size + 2 ≤ ·) 1 A3 bn (bs S) → k < w.heap.size + 2 → Rd (W.setCell ⟨k, i, none⟩ v) (w.heap.size + 2 ≤ ·) 1 A3 bn (bs S) := fun W k i v h hk => h.setCell (by show ¬ (w.heap.size + 2 ≤ k); omega) v
      repeat (refine q _ _ _ _ ?_ (by omega))
      exact R6.out
end
end Go.Proofs.YtefhkhocbcnbcaaDoor
