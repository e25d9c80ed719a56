/- The disk's Start: the power is back. -/
import Derived.Test.YtlecglmiigdjlaaGreatDoorZa18
namespace Go.Proofs.YtlecglmiigdjlaaGreatDoor
open Go.RowKit
set_option maxRecDepth 100000
set_option linter.unusedVariables false
set_option linter.unusedSimpArgs false
theorem flat_set {l : List Wq} {j : Nat} {x : Wq} {A : Option Addr} {n m : Nat} {d : List UInt8} (hx : l[j]? = some x) : flat wcell (l.set j ⟨x.p, A, n, m, d⟩) = (flat wcell l).set (j * 2 + 1) (.slice A n m) := by
  induction l generalizing j with
  | nil => simp at hx
  | cons y l ih =>
    cases j with
    | zero =>
      obtain rfl : y = x := by simpa using hx
      simp [flat, wcell]
    | succ j =>
      have := ih (j := j) (by simpa using hx)
      rw [List.set_cons_succ, flat_cons, flat_cons, this]
      have e : (j + 1) * 2 + 1 = (j * 2 + 1) + 1 + 1 := by omega
      rw [e]
      simp [wcell]
def StartPost (W : World) (L : Nat → Prop) (g : Nat) (D : Dk) (z : Nat) (keep : List Int) (e : Ending) (w' : World) : Prop := e = .returned (.tuple #[]) ∧ Aft W L g (D.started keep) z w'
section
variable {L : Nat → Prop} {g : Nat} {D : Dk} {z s o cS cO : Nat} {Q : Option Addr} {nq cQ : Nat} {qs : List Wq}
/-- The queue when the write M is cut to r bytes, and no more wait. -/
theorem DS.cutAt {W : World} (h : DS W L g D z s o cS cO Q nq cQ qs) {M r b : Nat} {x : Wq} (hx : qs[M]? = some x) (hr : r ≤ x.n) (hQ : Q = some ⟨b, 0, none⟩) (hq : D.q[M]? = some (x.p, x.d)) :
    DS ((W.setCell ⟨b, M * 2 + 1, none⟩ (.slice x.A r x.m)).setCell ⟨g, 2, none⟩ (.slice Q (M + 1) cQ)) L g { D with q := D.q.take M ++ [(x.p, x.d.take r)] } z s o cS cO Q (M + 1) cQ (qs.take M ++ [⟨x.p, x.A, r, x.m, x.d.take r⟩]) := by
  have hM : M < nq := by rw [← h.nqs]; exact (List.getElem?_eq_some_iff.1 hx).1
  have hdat : QDat W L g s o Q (qs.take M ++ [⟨x.p, x.A, r, x.m, x.d.take r⟩]) := by
    intro y hy
    rcases List.mem_append.1 hy with h1 | h1
    · exact h.dat y (List.mem_of_mem_take h1)
    · obtain rfl := List.mem_singleton.1 h1
      obtain ⟨r1, r2, r3⟩ := h.dat x (List.mem_of_getElem? hx)
      have := r1.take hr
      rw [Nat.mul_one, ← bs_take] at this
      exact ⟨this, Nat.le_trans hr r2, r3⟩
  have hset : qs.set M ⟨x.p, x.A, r, x.m, x.d.take r⟩ = qs.take M ++ ⟨x.p, x.A, r, x.m, x.d.take r⟩ :: qs.drop (M + 1) := by
    rw [List.set_eq_take_append_cons_drop, if_pos (by have := h.nqs; omega)]
  subst hQ
  have ho := (h.que.stored (M * 2 + 1) (.slice x.A r x.m)).1
  rw [← flat_set hx] at ho
  have ho2 := own_take ho (m := M + 1) (by omega)
  rw [← flat_take wcell_len] at ho2
  have e2 : (qs.set M ⟨x.p, x.A, r, x.m, x.d.take r⟩).take (M + 1) = qs.take M ++ [⟨x.p, x.A, r, x.m, x.d.take r⟩] := by
    rw [hset, List.take_append, List.length_take, Nat.min_eq_left (by have := h.nqs; omega), List.take_take, Nat.min_eq_right (by omega), show M + 1 - M = 1 by omega]
    rfl
  rw [e2] at ho2
  exact h.cutQ (Only.set W ⟨b, M * 2 + 1, none⟩ _ rfl).q rfl ho2 hdat (by rw [List.map_append, List.map_take, h.qd]; rfl)
theorem DS.qcell {W : World} (h : DS W L g D z s o cS cO Q nq cQ qs) {M : Nat} (hM : M < nq) : ∃ b x, Q = some ⟨b, 0, none⟩ ∧ qs[M]? = some x ∧ W.cell? ⟨b, M * 2, none⟩ = some (.int .i64 x.p) ∧ W.cell? ⟨b, M * 2 + 1, none⟩ = some (.slice x.A x.n x.m) ∧ W.frozen? ⟨b, M * 2 + 1, none⟩ = false ∧ D.q[M]? = some (x.p, x.d) := by
  obtain ⟨b, cap, hv, -, hbl⟩ := h.que.form (by omega)
  injection hv with hv _ hc
  subst hv hc
  obtain ⟨b', q0, x, hA, _, _, hx, hd0, hd1⟩ := w_cells (Rd.of_own h.que) hM
  injection hA with hA
  injection hA with e1 e2 _
  subst e1 e2
  rw [Nat.zero_add] at hd0 hd1
  refine ⟨b, x, rfl, hx, hd0, hd1, ?_, ?_⟩
  · rcases h.que.2 with ⟨h', _⟩ | ⟨g', cap', cur, h', _, hg, _⟩
    · simp at h'
    · simp only [Value.slice.injEq, Option.some.injEq, Addr.mk.injEq, and_true, true_and] at h'
      obtain ⟨rfl, rfl⟩ := h'
      simp [World.frozen?, hg]
  · rw [← h.qd]
    show (qs.map wq)[M]? = _
    rw [List.getElem?_map, hx]
    rfl
set_option maxHeartbeats 3200000 in
theorem start_ds (A : Option Addr) (n c : Nat) (keep : List Int) (w : World) (h : DS w L g D z s o cS cO Q nq cQ qs) (hk : D.Ok z) (hr : Rd w T 1 A n (ii keep)) (hkp : ∀ x ∈ keep, I64 x) (hnq : nq ≤ 100000) :
    Calls Tryz.prog 25 #[.pointer (some ⟨g, 0, none⟩), .slice A n c] w (StartPost w L g D z keep) := by
  obtain ⟨-, -, k2, -, -⟩ := h.c
  have hz1 := h.z1
  have hz2 := h.z2
  have hr0 : Calls Tryz.prog 56 #[.slice A n c, .int .i64 0, .int .i64 ((nq : Int) + 1)] w (fun e w' => e = .returned (.int .i64 (restL keep 0 (nq + 1) : Nat)) ∧ w' = w) := drest_any A n c keep 0 nq w hr hkp (by omega) (by omega)
  obtain ⟨M, hM⟩ : ∃ M, M = restL keep 0 (nq + 1) := ⟨_, rfl⟩
  have hMn : M ≤ nq := by rw [hM]; exact restL_lt
  rw [← hM] at hr0
  have tail : ∀ (W : World) (D2 : Dk) (Q2 : Option Addr) (n2 c2 : Nat) (q2 : List Wq), DS W L g D2 z s o cS cO Q2 n2 c2 q2 → Fit z D2.q → n2 ≤ 1000000 → Calls Tryz.prog 57 #[.pointer (some ⟨g, 0, none⟩)] W (SetPost W L g D2 z) := fun W D2 Q2 n2 c2 q2 h2 hf hn => settle_any W h2 hf (by omega)
  have Htail := Lib.hid tail
  have H := Lib.hid h
  by_cases hlt : M < nq
  · obtain ⟨b, x, rfl, hx, hd0, hd1, hdf, hq⟩ := h.qcell hlt
    have hxn := (h.dat x (List.mem_of_getElem? hx)).1.blen
    have hxm := (h.dat x (List.mem_of_getElem? hx)).2
    have hfit := hk.fit _ (List.mem_of_getElem? hq)
    dsimp only at hfit
    have hr1 : Calls Tryz.prog 56 #[.slice A n c, .int .i64 1, .int .i64 ((x.n : Int) + 1)] w.drew (fun e w' => e = .returned (.int .i64 (restL keep 1 (x.n + 1) : Nat)) ∧ w' = w.drew) := drest_any A n c keep 1 x.n w.drew hr.drew hkp (by omega) (by omega)
    obtain ⟨r, hrr⟩ : ∃ r, r = restL keep 1 (x.n + 1) := ⟨_, rfl⟩
    have hrn : r ≤ x.n := by rw [hrr]; exact restL_lt
    rw [← hrr] at hr1
    obtain ⟨D2, hD2⟩ : ∃ D2 : Dk, D2 = { D with q := D.q.take M ++ [(x.p, x.d.take r)] } := ⟨_, rfl⟩
    have e2 : D2.q = keptQ D.q keep := by
      rw [hD2]
      unfold keptQ
      rw [h.qlen, ← hM, hq]
      dsimp only
      rw [hxn, ← hrr]
    have e3 : D2.safe = D.safe := by rw [hD2]
    have eD : (D.started keep) = { D with safe := lain D2.safe D2.q, now := lain D2.safe D2.q, q := [], armed := 0, off := false } := by
      unfold Dk.started
      rw [← e2, e3]
    unfold StartPost
    rw [eD]
    obtain ⟨W5, hW5⟩ : ∃ W5, W5 = (w.drew.setCell ⟨b, M * 2 + 1, none⟩ (.slice x.A r x.m)).setCell ⟨g, 2, none⟩ (.slice (some ⟨b, 0, none⟩) (M + 1) cQ) := ⟨_, rfl⟩
    have h5 := h.drew.cutAt hx hrn rfl hq
    rw [← hW5, ← hD2] at h5
    have hset := tail W5 D2 _ _ cQ _ h5 (by rw [e2]; exact keptQ_fit hk.fit) (by omega)
    have Hset := Lib.hid hset
    have hbne : b ≠ g := fun e => h.gq (by rw [e]; rfl)
    have hk5 : Kept L w W5 := by
      rw [hW5]
      exact (((Kept.refl L w).drew).set (h.lq b rfl) _).set h.lg _
    have hok : (D.started keep).Ok z := hk.started
    rw [eD] at hok
    have Hok := Lib.hid hok
    have HW5 := Lib.hid hW5
    have Hk5 := Lib.hid hk5
    have f2 := h.bx.f 2
    have hzc := h.zc
    have hsl1 : ∀ W : World, (Instr.sliceAt 33 (.slice x.A x.n x.m) none (some (.int .i64 (r : Int))) none).run Tryz.prog W = .ok (.slice x.A r x.m) W := by
      intro W
      rw [run_slice_hi (P := Tryz.prog) 33 Tryz.underlying33 (size := 1) (by kernel_rfl) x.A x.n x.m W r (by omega)]
      congr 2
      split
      · rfl
      · cases x.A with
        | none => rfl
        | some a => simp [Addr.add]
    have hsl2 : ∀ W : World, (Instr.sliceAt 122 (.slice (some ⟨b, 0, none⟩) nq cQ) none (some (.int .i64 ((M : Int) + 1))) none).run Tryz.prog W = .ok (.slice (some ⟨b, 0, none⟩) (M + 1) cQ) W := by
      intro W
      have := run_slice_hi (P := Tryz.prog) 122 Tryz.underlying122 (size := 2) (by kernel_rfl) (some ⟨b, 0, none⟩) nq cQ W (M + 1) (by omega)
      rw [show (((M + 1 : Nat) : Int)) = (M : Int) + 1 by push_cast; rfl] at this
      rw [this]
      congr 2
      split
      · rfl
      · simp [Addr.add]
    have hltI : (M : Int) < nq := by omega
    have hM0 : (0 : Int) ≤ M := by omega
    have hxz : x.n ≤ 4194304 := by omega
    have wxn : IntKind.i64.wrap ((x.n : Int) + 1) = (x.n : Int) + 1 := by rw [IntKind.wrap_i64]; omega
    clear h hM hr hset eD hok hW5 hk5 h5 hx hq e2 e3 hD2 hrr
    go_enter Tryz.func25, Tryz.ntmps25
    go_wp2_with fail
    refine hr0.mono ?_
    rintro e w1 ⟨rfl, rfl⟩
    go_upto_region 4 with (fail)
    go_cut [] (fun W => W = w1.drew.setCell ⟨b, M * 2 + 1, none⟩ (.slice x.A r x.m))
    case first =>
      go_region_law (first
        | (rw [if_pos (by rfl)]; go_simp; go_at_call 56; refine hr1.mono ?_; rintro e w' ⟨rfl, rfl⟩))
      all_goals
        go_wp2_with fail
        go_meet
        case rel => rfl
    case rest =>
      subst hcut
      have k6 : (w1.drew.setCell ⟨b, M * 2 + 1, none⟩ (.slice x.A r x.m)).cell? ⟨g, 2, none⟩ = some (.slice (some ⟨b, 0, none⟩) nq cQ) := by
        rw [cell_far (fun e => hbne e.symm)]
        exact k2
      have f6 : (w1.drew.setCell ⟨b, M * 2 + 1, none⟩ (.slice x.A r x.m)).frozen? ⟨g, 2, none⟩ = false := by
        rw [frozen_setCell]
        exact f2
      obtain ⟨w6, hw6⟩ : ∃ w6, w6 = w1.drew.setCell ⟨b, M * 2 + 1, none⟩ (.slice x.A r x.m) := ⟨_, rfl⟩
      rw [← hw6] at k6 f6 HW5 ⊢
      clear hw6
      clear k2 f2 hd0 hd1 hdf
      go_wp2_with fail
      rw [← HW5.out]
      clear k6 f6
      refine Hset.out.mono ?_
      rintro e w2 ⟨rfl, ⟨s2, o2, cS2, cO2, Q2, n2, c2, q2, h2⟩, hk2⟩
      obtain ⟨c0, -, -, -, -⟩ := h2.c
      have hcl := clone_any (some ⟨s2, 0, none⟩) z cS2 (bs D2.settled.safe) w2 (Rd.of_own h2.safe) (bs_one _) (by omega)
      have Hcl := Lib.hid hcl
      have H2 := Lib.hid h2
      have Hk2 := Lib.hid hk2
      clear hcl h2 hk2
      go_wp2_with fail
      refine Hcl.out.mono ?_
      rintro e w3 ⟨A3, c3, rfl, hown3, hb3⟩
      obtain ⟨o3, cap3, hv3, hB3, hl3⟩ := hown3.form (by omega)
      injection hv3 with hv3 _ hc3
      subst hv3 hc3
      have h3 := H2.out.below hb3
      have hL3 : ¬ L o3 := fun hl => by have := H2.out.lt o3 hl; omega
      have h4 := h3.newNow hown3 hL3
      obtain ⟨-, i1, -, i3, i4⟩ := h3.c
      have g1 := h3.bx.f 1
      have g3 := h3.bx.f 3
      have g4 := h3.bx.f 4
      have H3 := Lib.hid h3
      have H4 := Lib.hid h4
      have HL3 := Lib.hid hL3
      have Hb3 := Lib.hid hb3
      clear h3 h4 hown3 hL3 hb3
      go_wp2_with fail
      go_end0
      have ho5 : ∀ W : World, Only g W ((W.setCell ⟨g, 4, none⟩ (.bool false)).setCell ⟨g, 3, none⟩ (.int .i64 0)) := fun W => (Only.set W ⟨g, 4, none⟩ _ rfl).trans (Only.set _ ⟨g, 3, none⟩ _ rfl)
      refine ⟨rfl, _, (H4.out.flags ((H4.out.bx.set 4 (.bool false)).set 3 (.int .i64 0)) (ho5 _)).x Hok.out, ?_, ?_⟩
      · intro b hb
        rcases hb with hb | rfl
        · exact .inl hb
        · exact .inr (Nat.le_trans Hk5.out.size (Nat.le_trans Hk2.out.size hB3))
      · have q1 : Kept L w1 w3 := (Hk5.out.trans (V := L) Hk2.out fun _ _ h => h).trans (V := L) (Kept.of_new Hb3.out) fun _ _ h => h
        exact (((q1.set H3.out.lg _).set H3.out.lg _).set H3.out.lg _)
  · obtain rfl : M = nq := by omega
    have eD : (D.started keep) = { D with safe := lain D.safe D.q, now := lain D.safe D.q, q := [], armed := 0, off := false } := by
      unfold Dk.started keptQ
      rw [h.qlen, ← hM, List.getElem?_eq_none (by rw [h.qlen]; exact Nat.le_refl _)]
    unfold StartPost
    rw [eD]
    have hset := tail w D Q M cQ qs h hk.fit (by omega)
    have Hset := Lib.hid hset
    have hok : (D.started keep).Ok z := hk.started
    rw [eD] at hok
    have Hok := Lib.hid hok
    clear h hM hr hset eD hok
    go_enter Tryz.func25, Tryz.ntmps25
    go_wp2_with fail
    refine hr0.mono ?_
    rintro e w1 ⟨rfl, rfl⟩
    go_wp2_with fail
    refine Hset.out.mono ?_
    rintro e w2 ⟨rfl, ⟨s2, o2, cS2, cO2, Q2, n2, c2, q2, h2⟩, hk2⟩
    obtain ⟨c0, -, -, -, -⟩ := h2.c
    have hcl := clone_any (some ⟨s2, 0, none⟩) z cS2 (bs D.settled.safe) w2 (Rd.of_own h2.safe) (bs_one _) (by omega)
    have Hcl := Lib.hid hcl
    have H2 := Lib.hid h2
    have Hk2 := Lib.hid hk2
    clear hcl h2 hk2
    go_wp2_with fail
    refine Hcl.out.mono ?_
    rintro e w3 ⟨A3, c3, rfl, hown3, hb3⟩
    obtain ⟨o3, cap3, hv3, hB3, hl3⟩ := hown3.form (by omega)
    injection hv3 with hv3 _ hc3
    subst hv3 hc3
    have h3 := H2.out.below hb3
    have hL3 : ¬ L o3 := fun hl => by have := H2.out.lt o3 hl; omega
    have h4 := h3.newNow hown3 hL3
    obtain ⟨-, i1, -, i3, i4⟩ := h3.c
    have g1 := h3.bx.f 1
    have g3 := h3.bx.f 3
    have g4 := h3.bx.f 4
    have H3 := Lib.hid h3
    have H4 := Lib.hid h4
    have HL3 := Lib.hid hL3
    have Hb3 := Lib.hid hb3
    clear h3 h4 hown3 hL3 hb3
    go_wp2_with fail
    go_end0
    have ho5 : ∀ W : World, Only g W ((W.setCell ⟨g, 4, none⟩ (.bool false)).setCell ⟨g, 3, none⟩ (.int .i64 0)) := fun W => (Only.set W ⟨g, 4, none⟩ _ rfl).trans (Only.set _ ⟨g, 3, none⟩ _ rfl)
    refine ⟨rfl, _, (H4.out.flags ((H4.out.bx.set 4 (.bool false)).set 3 (.int .i64 0)) (ho5 _)).x Hok.out, ?_, ?_⟩
    · intro b hb
      rcases hb with hb | rfl
      · exact .inl hb
      · exact .inr (Nat.le_trans Hk2.out.size hB3)
    · have q1 : Kept L w1 w3 := Hk2.out.trans (V := L) (Kept.of_new Hb3.out) fun _ _ h => h
      exact (((q1.set H3.out.lg _).set H3.out.lg _).set H3.out.lg _)
end
/-- The power back. -/
theorem start_any {L : Nat → Prop} {g : Nat} {D : Dk} {z : Nat} (A : Option Addr) (n c : Nat) (keep : List Int) (w : World) (h : DX w L g D z) (hr : Rd w T 1 A n (ii keep)) (hkp : ∀ x ∈ keep, I64 x) (hnq : D.q.length ≤ 100000) :
    Calls Tryz.prog 25 #[.pointer (some ⟨g, 0, none⟩), .slice A n c] w (StartPost w L g D z keep) := by
  obtain ⟨s, o, cS, cO, Q, nq, cQ, qs, h, hk⟩ := h
  exact start_ds A n c keep w h hk hr hkp (by rw [← h.qlen]; exact hnq)
end Go.Proofs.YtlecglmiigdjlaaGreatDoor
