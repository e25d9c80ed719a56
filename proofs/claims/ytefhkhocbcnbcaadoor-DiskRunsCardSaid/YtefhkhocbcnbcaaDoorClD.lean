/- The disk's Clone; numbers of their own. -/
import Derived.Test.YtefhkhocbcnbcaaDoorStart
import Derived.Test.YtefhkhocbcnbcaaDoorWide
import Derived.Deep.DrawnRows
namespace Go.Proofs.YtefhkhocbcnbcaaDoor
open Go.RowKit
set_option maxRecDepth 100000
set_option linter.unusedVariables false
set_option linter.unusedSimpArgs false
theorem int_elem : Elem Tryd.prog 3 (.int .i64 0) 1 8 := by unfold Elem; kernel_rfl
theorem ii_one (l : List Int) : ∀ u ∈ ii l, u.oneCell' = true := by
  intro u hu
  simp only [ii, List.mem_map] at hu
  obtain ⟨c, _, rfl⟩ := hu
  rfl
def OwnPost (W : World) (n : Nat) (l : List Int) (e : Ending) (w' : World) : Prop := ∃ A' c', e = .returned (.slice A' n c') ∧ Rd w' (W.heap.size ≤ ·) 1 A' n (ii l) ∧ Below W.heap.size W w'
theorem own_any (A : Option Addr) (n c : Nat) (l : List Int) (w : World) {ok : Nat → Prop} (hr : Rd w ok 1 A n (ii l)) (hn : n * 8 ≤ 140737488351232) :
    Calls Tryd.prog 23 #[.slice A n c] w (OwnPost w n l) := by
  have Hr := Lib.hid hr
  clear hr
  go_enter Tryd.func23, Tryd.ntmps23
  have hm8 : n ≤ maxLen := by unfold maxLen; omega
  go_wp2_with (at_builtin; refine wpList_append_wide (news := ii l) _ Tryd.underlying36 int_elem rfl (by omega) rfl rfl rfl (World.ownsRow_nil _ w.heap.size 3 1) rfl Hr.out (ii_one l) (by omega) (by omega) (Nat.le_refl _) (Nat.zero_add _) (List.nil_append _) ?_; intro A1 c1 w1 hown1 hg1 hat1)
  go_ret
  exact ⟨A1, c1, rfl, Rd.of_own hown1, (Below.refl _ _).grown hg1 (Nat.le_refl _) (by simp)⟩
def ClonePost (W : World) (D : Dk) (z : Nat) (e : Ending) (w' : World) : Prop := ∃ L g, e = .returned (.pointer (some ⟨g, 0, none⟩)) ∧ DX w' L g D z ∧ (∀ b, L b → W.heap.size ≤ b) ∧ Below W.heap.size W w'
section
variable {L : Nat → Prop} {g : Nat} {D : Dk} {z s o cS cO : Nat} {Q : Option Addr} {nq cQ : Nat} {qs : List Wq}
theorem own_mono' {W : World} {B B' : Nat} {e : TypeId} {size n m c : Nat} {A : Option Addr} {xs : List Value} (ho : W.ownsRow B e size (.slice A n c) m xs) (hB : B' ≤ B) : W.ownsRow B' e size (.slice A n c) m xs := by
  refine ⟨ho.1, ?_⟩
  rcases ho.2 with h1 | ⟨g, cap, cur, h1, h2, h4⟩
  · exact .inl h1
  · exact .inr ⟨g, cap, cur, h1, Nat.le_trans hB h2, h4⟩
/-- Out of its three parts: a disk that nothing waits at. -/
theorem DS.parts {W : World} {B C s2 o2 c2 c3 : Nat} {A3 A4 : Option Addr} {x : Dk} (hb : Bx W C #[.slice A3 z c2, .slice A4 z c3, .slice none 0 0, .int .i64 x.armed, .bool x.off]) (h1 : W.ownsRow B 5 1 (.slice A3 z c2) z (bs x.safe)) (h2 : W.ownsRow B 5 1 (.slice A4 z c3) z (bs x.now))
    (hC : C < B) (h12 : A3.map (·.block) ≠ A4.map (·.block)) (hz1 : 1 ≤ z) (hz2 : z ≤ 4194304) (h3 : A3.map (·.block) = some s2) (h4 : A4.map (·.block) = some o2) :
    DS W (fun b => C ≤ b ∧ b < W.heap.size) C { x with q := [] } z s2 o2 c2 c3 none 0 0 [] := by
  obtain ⟨g3, k3, hv3, hB3, hl3⟩ := h1.form (by omega)
  injection hv3 with hv3 _ hk3
  subst hv3 hk3
  obtain ⟨g4, k4, hv4, hB4, hl4⟩ := h2.form (by omega)
  injection hv4 with hv4 _ hk4
  subst hv4 hk4
  obtain rfl : g3 = s2 := by simpa using h3
  obtain rfl : g4 = o2 := by simpa using h4
  have hlt := hb.lt
  have hne : g3 ≠ g4 := by intro e; subst e; exact h12 rfl
  exact ⟨hb, own_zero h1, own_zero h2, own_nil _ _ _ _ _ rfl, (fun y hy => by cases hy), rfl, ⟨Nat.le_refl _, hlt⟩, ⟨by omega, hl3⟩, ⟨by omega, hl4⟩, (fun b hb => by cases hb), by omega, by omega, hne, (by intro h; cases h), (by intro h; cases h), (by intro h; cases h), fun b hb => hb.2, hz1, hz2⟩
set_option maxHeartbeats 3200000 in
theorem clone_ds (w : World) (h : DS w L g D z s o cS cO Q nq cQ qs) (hk : D.Ok z) (hnq : nq ≤ 100000) :
    Calls Tryd.prog 9 #[.pointer (some ⟨g, 0, none⟩)] w (ClonePost w D z) := by
  have hz1 := h.z1
  have hz2 := h.z2
  have hgl := h.bx.lt
  obtain ⟨W1, hW1⟩ : ∃ W1, W1 = w.alloc (.cells #[.slice (some ⟨s, 0, none⟩) z cS, .slice (some ⟨o, 0, none⟩) z cO, .slice Q nq cQ, .int .i64 D.armed, .bool D.off] 59) := ⟨_, rfl⟩
  have h1 : DS W1 L g D z s o cS cO Q nq cQ qs := by subst hW1; exact h.alloc _
  have F1 : Fr W1 w.heap.size 5 W1 := by subst hW1; exact Fr.new rfl rfl
  have x1 : Bx W1 w.heap.size #[.slice (some ⟨s, 0, none⟩) z cS, .slice (some ⟨o, 0, none⟩) z cO, .slice Q nq cQ, .int .i64 D.armed, .bool D.off] := by subst hW1; exact Bx.new _ _ _ rfl
  have hb1 : Below w.heap.size w W1 := by subst hW1; exact (Below.refl _ _).alloc (Nat.le_refl _) _
  have hz : W1.heap.size = w.heap.size + 1 := by subst hW1; simp
  obtain ⟨u0, u1, u2, u3, u4⟩ := h1.c
  have hsl := h.lt s h.ls
  have hol := h.lt o h.lo
  have rs : Rd W1 (fun b => b ≠ w.heap.size) 1 (some ⟨s, 0, none⟩) z (bs D.safe) := (Rd.of_own h1.safe).blk fun b hb => by injection hb with hb; dsimp only at hb; omega
  have rn : Rd W1 (fun b => b ≠ w.heap.size) 1 (some ⟨o, 0, none⟩) z (bs D.now) := (Rd.of_own h1.now).blk fun b hb => by injection hb with hb; dsimp only at hb; omega
  have sof : ∀ W, Fr W1 w.heap.size 5 W → (Fr W1 w.heap.size 5 W ∧ W.cell? ⟨g, 0, none⟩ = some (.slice (some ⟨s, 0, none⟩) z cS) ∧ W.cell? ⟨g, 1, none⟩ = some (.slice (some ⟨o, 0, none⟩) z cO) ∧ W.cell? ⟨w.heap.size, 0, none⟩ = some (peek W w.heap.size 0) ∧ W.cell? ⟨w.heap.size, 1, none⟩ = some (peek W w.heap.size 1) ∧ W.cell? ⟨w.heap.size, 2, none⟩ = some (peek W w.heap.size 2) ∧ W.frozen? ⟨w.heap.size, 0, none⟩ = false ∧ W.frozen? ⟨w.heap.size, 1, none⟩ = false ∧ W.frozen? ⟨w.heap.size, 2, none⟩ = false) :=
    fun W F2 => ⟨F2, F2.cell (by omega) u0, F2.cell (by omega) u1, F2.pk (by omega), F2.pk (by omega), F2.pk (by omega), F2.fz _, F2.fz _, F2.fz _⟩
  have hcs := fun W (h : Fr W1 w.heap.size 5 W) => clone_any (some ⟨s, 0, none⟩) z cS (bs D.safe) W (h.rd rs (by omega)) (bs_one _) (by omega)
  have hcn := fun W (h : Fr W1 w.heap.size 5 W) => clone_any (some ⟨o, 0, none⟩) z cO (bs D.now) W (h.rd rn (by omega)) (bs_one _) (by omega)
  have Hcs := Lib.hid hcs
  have Hcn := Lib.hid hcn
  obtain ⟨k0, k1, k2, k3, k4⟩ := h.c
  have H := Lib.hid h
  have HW := Lib.hid hW1
  have s0 := sof _ F1
  have X1 := Lib.hid x1
  have Hb1 := Lib.hid hb1
  have Hz := Lib.hid hz
  clear h hW1 h1 x1 hb1 hz u0 u1 u2 u3 u4 rs rn hcs hcn
  go_enter Tryd.func9, Tryd.ntmps9
  go_upto_region 4 with (fail)
  rw [← HW.out]
  go_split_ands
  go_cut [] (fun W => ∃ L2 s2 o2 cS2 cO2, DS W L2 w.heap.size { D with q := [] } z s2 o2 cS2 cO2 none 0 0 [] ∧ (∀ b, L2 b → w.heap.size ≤ b) ∧ Below w.heap.size w W)
  case first =>
    go_region_held3 (fun W => Fr W1 w.heap.size 5 W ∧ W.cell? ⟨g, 0, none⟩ = some (.slice (some ⟨s, 0, none⟩) z cS) ∧ W.cell? ⟨g, 1, none⟩ = some (.slice (some ⟨o, 0, none⟩) z cO) ∧ W.cell? ⟨w.heap.size, 0, none⟩ = some (peek W w.heap.size 0) ∧ W.cell? ⟨w.heap.size, 1, none⟩ = some (peek W w.heap.size 1) ∧ W.cell? ⟨w.heap.size, 2, none⟩ = some (peek W w.heap.size 2) ∧ W.frozen? ⟨w.heap.size, 0, none⟩ = false ∧ W.frozen? ⟨w.heap.size, 1, none⟩ = false ∧ W.frozen? ⟨w.heap.size, 2, none⟩ = false) ((refine sof _ ?_; first | exact F1.drew | (go_split_ands; exact Fr.below (by assumption) (by assumption)) | (go_split_ands; exact Fr.set (by assumption) _ _) | (go_split_ands; exact Fr.set (Fr.set (by assumption) _ _) _ _) | (go_split_ands; exact Fr.set (Fr.set (Fr.set (by assumption) _ _) _ _) _ _))) (first
      | ((with_reducible refine (Hcs.out _ (by go_split_ands; assumption)).mono ?_); rintro e w3 ⟨A3, c3, rfl, hown3, hb3⟩)
      | ((with_reducible refine (Hcn.out _ (by go_split_ands; assumption)).mono ?_); rintro e w4 ⟨A4, c4, rfl, hown4, hb4⟩))
    all_goals
      go_wp2_with fail
      go_meet
      case rel =>
        have hz := Hz.out
        have e0 : W1.drew.heap.size = W1.heap.size := rfl
        have x5 := ((((X1.out.drew.below hb3).below hb4).set 0 (.slice A3 z c3)).set 1 (.slice A4 z c4)).set 2 (.slice none 0 0)
        have l3 := own_lt hown3
        have l4 := own_lt hown4
        have hz3 := hb3.size
        have hz4 := hb4.size
        obtain ⟨s3, k3', hv3, hB3, hl3⟩ := hown3.form (by omega)
        obtain ⟨o3, k4', hv4, hB4, hl4⟩ := hown4.form (by omega)
        injection hv3 with hv3 _ _
        injection hv4 with hv4 _ _
        have keepC : ∀ (b : Nat) (va vb vc : Value), b ≠ w.heap.size → (((w4.setCell ⟨w.heap.size, 0, none⟩ va).setCell ⟨w.heap.size, 1, none⟩ vb).setCell ⟨w.heap.size, 2, none⟩ vc).heap[b]? = w4.heap[b]? := fun b va vb vc hb => by
          rw [Below.heap_setCell _ _ _ b (fun e => hb e), Below.heap_setCell _ _ _ b (fun e => hb e), Below.heap_setCell _ _ _ b (fun e => hb e)]
        have o3' := own_kb (own_below hown3 hb4) (fun b hb => keepC b (.slice A3 z c3) (.slice A4 z c4) (.slice none 0 0) (by have := (l3 b hb).1; omega))
        have o4' := own_kb hown4 (fun b hb => keepC b (.slice A3 z c3) (.slice A4 z c4) (.slice none 0 0) (by have := (l4 b hb).1; omega))
        have hw4 : Below w.heap.size w w4 := ((Hb1.out.drew).trans (hb3.mono (by omega))).trans (hb4.mono (by omega))
        refine ⟨_, s3, o3, c3, c4, DS.parts (B := w.heap.size + 1) (x := D) x5 (own_mono' o3' (by omega)) (own_mono' o4' (by omega)) (by omega) ?_ hz1 hz2 (by rw [hv3]; rfl) (by rw [hv4]; rfl), fun b hb => hb.1, ?_⟩
        · rw [hv3, hv4]
          intro e
          injection e with e
          dsimp only at e
          omega
        · exact ((hw4.setCell (by show w.heap.size ≤ w.heap.size; omega) _).setCell (by show w.heap.size ≤ w.heap.size; omega) _).setCell (by show w.heap.size ≤ w.heap.size; omega) _
  case rest =>
    obtain ⟨L0, s3, o3, cS3, cO3, h0, hl0, hb0⟩ := hcut
    have Hd : ∀ W', Below w.heap.size w W' → DS W' L g D z s o cS cO Q nq cQ qs := fun W' hb => H.out.below hb
    obtain ⟨-, -, j2, -, -⟩ := (Hd wc hb0).c
    have hC0 := h0.c.2.2.1
    have H0 := Lib.hid h0
    have Hl0 := Lib.hid hl0
    have Hb0 := Lib.hid hb0
    have HD := Lib.hid Hd
    clear h0 hl0 hb0 Hd k0 k1 k2 k3 k4 hC0
    go_wp2_with fail
    go_loopg [29] nq (fun m s29 wr => ∃ j, m = nq - j ∧ j ≤ nq ∧ s29 = .int .i64 (j : Nat) ∧ (∃ L2 Q2 c2 q2, DS wr L2 w.heap.size { D with q := D.q.take j } z s3 o3 cS3 cO3 Q2 j c2 q2 ∧ (∀ b, L2 b → w.heap.size ≤ b)) ∧ Below w.heap.size w wr)
    case atStart => exact ⟨0, by omega, by omega, rfl, ⟨L0, none, 0, [], H0.out, Hl0.out⟩, Hb0.out⟩
    case round =>
      obtain ⟨j, hm, hj, rfl, ⟨L2, Q2, c2, q2, h2, hl2⟩, hb2⟩ := hrel
      have hd := HD.out wr hb2
      have Hm := Lib.hid hm
      have H2 := Lib.hid h2
      have Hl2 := Lib.hid hl2
      have Hb2 := Lib.hid hb2
      have HDr := Lib.hid hd
      clear hm h2 hl2 hb2 hd
      by_cases hlt : j < nq
      · obtain ⟨b, q0, x, rfl, _, hbl, hx, hd0, hd1⟩ := w_cells (Rd.of_own HDr.out.que) hlt
        have hjn : (j : Int) < nq := by omega
        have h0j : (0 : Int) ≤ j := by omega
        have hq : D.q[j]? = some (x.p, x.d) := by rw [← H.out.qd]; show (qs.map wq)[j]? = _; rw [List.getElem?_map, hx]; rfl
        have hxd := HDr.out.dat x (List.mem_of_getElem? hx)
        have hfit := hk.fit _ (List.mem_of_getElem? hq)
        have hxl := hxd.1.blen
        dsimp only at hfit
        obtain ⟨W5, hW5⟩ : ∃ W5, W5 = wr.alloc (.cells #[.int .i64 (x.p : Int), .slice x.A x.n x.m] 67) := ⟨_, rfl⟩
        have hb5 : Below wr.heap.size wr W5 := by subst hW5; exact (Below.refl _ _).alloc (Nat.le_refl _) _
        have x5 : Bx W5 wr.heap.size #[.int .i64 (x.p : Int), .slice x.A x.n x.m] := by subst hW5; exact Bx.new _ _ _ rfl
        have h5 := H2.out.below hb5
        have hcl := clone_any x.A x.n x.m (bs x.d) W5.drew (hxd.1.below hb5).drew (bs_one _) (by omega)
        obtain ⟨v0, v1, -, -⟩ := x5.c2
        have v0d : W5.drew.cell? ⟨wr.heap.size, 0, none⟩ = some (.int .i64 (x.p : Int)) := v0
        have v1d : W5.drew.cell? ⟨wr.heap.size, 1, none⟩ = some (.slice x.A x.n x.m) := v1
        have k2 : W5.drew.cell? ⟨w.heap.size, 2, none⟩ = some (.slice Q2 j c2) := h5.c.2.2.1
        have e5 : W5.drew.heap.size = W5.heap.size := rfl
        have Hx := Lib.hid hx
        have Hq := Lib.hid hq
        have HW5 := Lib.hid hW5
        have H5 := Lib.hid h5
        have X5 := Lib.hid x5
        have Hcl := Lib.hid hcl
        have Hb5 := Lib.hid hb5
        clear hW5 hb5 x5 h5 hcl hxd hx hq v0 v1
        go_wp2_with fail
        rw [← HW5.out]
        clear hd0 hd1
        go_region_law (first
          | (rw [if_pos (by rfl)]; go_simp; go_at_call 26; refine Hcl.out.mono ?_; rintro e w3 ⟨A3, c3, rfl, hown3, hb6⟩; have v2' : w3.cell? ⟨w.heap.size, 2, none⟩ = some (.slice Q2 j c2) := (H5.out.bx.drew.below hb6).c 2; have v2a : ∀ ob, (w3.alloc ob).cell? ⟨w.heap.size, 2, none⟩ = some (.slice Q2 j c2) := fun ob => ((H5.out.bx.drew.below hb6).alloc ob).c 2; have p0 : w3.cell? ⟨wr.heap.size, 0, none⟩ = some (.int .i64 (x.p : Int)) := (X5.out.drew.below hb6).c 0)
          | (refine step_append_any (news := [.int .i64 (x.p : Int), .slice A3 x.n c3]) _ Tryd.underlying57 wr_elem rfl (by omega) rfl rfl rfl ((own_below H5.out.drew.que hb6).alloc _) rfl (Rd.wlit _ _ rfl) (by intro u hu; simp only [List.mem_cons, List.not_mem_nil, or_false] at hu; rcases hu with rfl | rfl <;> rfl) (by omega) (Nat.zero_le _) rfl rfl ?_; intro A4 c4 w4 hown4 hg4 hat4; have hx4 := (((H5.out.bx.drew.below hb6).alloc _).grown hg4 H5.out.gq); have m1 := hx4.c 2; have m2 := hx4.f 2))
        all_goals
          go_wp2_with fail
          go_roundg (nq - (j + 1))
          case measure => have := Hm.out; omega
          case rel =>
            have h3 := (H5.out.drew.below hb6).alloc (.cells #[.int .i64 (x.p : Int), .slice A3 x.n c3] 67)
            have hA3 := own_lt hown3
            have hl5 := H5.out.lt
            have hs5 := Hb5.out.size
            have hs2 := Hb2.out.size
            have hp := h3.push (p := x.p) (d := x.d) (hown3.alloc _) (fun k hk' hL => by have := (hA3 k hk').1; have := hl5 k hL; omega) rfl hown4 hg4 hat4
            have hq2 : D.q.take (j + 1) = D.q.take j ++ [(x.p, x.d)] := by rw [List.take_add_one, Hq.out]; rfl
            refine ⟨j + 1, rfl, by omega, by go_num, ⟨_, _, _, _, by rw [hq2]; exact hp, ?_⟩, ?_⟩
            · intro k hk'
              rcases hk' with h7 | h7 | h7
              · exact Hl2.out k h7
              · have := (hA3 k h7).1
                omega
              · rcases hat4 with h8 | h8
                · exact Hl2.out k (H5.out.lq k (by rw [← h8]; exact h7))
                · rw [h8] at h7
                  injection h7 with h7
                  have := hb6.size
                  simp at h7
                  omega
            · have q1 : Below w.heap.size w w3 := ((Hb2.out.trans (Hb5.out.mono hs2)).drew).trans (hb6.mono (by omega))
              exact ((q1.alloc q1.size _).grown hg4 (by have := q1.size; simp; omega) (fun k hk' => Hl2.out k (H5.out.lq k hk'))).setCell (by show w.heap.size ≤ w.heap.size; omega) _
      · obtain rfl : j = nq := by omega
        go_wp2_with fail
        go_ret
        have h9 := H2.out
        rw [List.take_of_length_le (by rw [H.out.qlen]; exact Nat.le_refl _)] at h9
        exact ⟨_, _, rfl, DS.x (D := D) h9 hk, Hl2.out, Hb2.out⟩
end
/-- A disk that is the same. -/
theorem cloneD_any {L : Nat → Prop} {g : Nat} {D : Dk} {z : Nat} (w : World) (h : DX w L g D z) (hnq : D.q.length ≤ 100000) :
    Calls Tryd.prog 9 #[.pointer (some ⟨g, 0, none⟩)] w (ClonePost w D z) := by
  obtain ⟨s, o, cS, cO, Q, nq, cQ, qs, h, hk⟩ := h
  exact clone_ds w h hk (by rw [← h.qlen]; exact hnq)
end Go.Proofs.YtefhkhocbcnbcaaDoor
