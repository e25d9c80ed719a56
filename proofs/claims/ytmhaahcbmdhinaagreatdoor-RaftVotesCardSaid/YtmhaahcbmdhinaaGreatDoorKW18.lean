/- Walks: (*raft.Core).follow.
   Walks: (*raft.Core).say.
   Walks: (*raft.Core).ours.
   Plain member: what its numbers keep within, through all that it is asked for. No program in sight.
   slices.DeleteFunc at the members, laid by the kit's own commands in plain words. -/
import Derived.Test.YtmhaahcbmdhinaaGreatDoorKW17
import Derived.Test.YtmhaahcbmdhinaaGreatDoorKW1
import Derived.Test.YtmhaahcbmdhinaaGreatDoorKW11
import Derived.Test.YtmhaahcbmdhinaaGreatDoorKW10
import Derived.Shelf.SlicesE.DeleteFunc
import Derived.Test.YtmhaahcbmdhinaaGreatDoorProg
namespace Go.Proofs.YtmhaahcbmdhinaaGreatDoor
open Go.RowKit
set_option maxRecDepth 100000
set_option linter.unusedVariables false
set_option linter.unusedSimpArgs false
/-- The member's block with other numbers. -/
theorem CX.hold' {fb p : Nat} {w w' : World} {V U : Nat → Prop} {C C' : Cr} {m : Mb} (h : CX fb w p V U C m) (hb : Bx w' p (m.cells C')) (hk : ∀ b, b < w.heap.size → b ≠ p → w'.heap[b]? = w.heap[b]?) (hz : w.heap.size ≤ w'.heap.size) (h1 : C'.s = C.s) (h2 : C'.peers = C.peers) (h3 : C'.votes = C.votes) (h4 : C'.hv = C.hv) : CX fb w' p V U C' m := by
  have hp : U p := h.vu p h.vp
  refine ⟨hb, ?_, h.vp, h.vq, h.qp, h.vv, h.vu, h.vf, fun b hb => Nat.lt_of_lt_of_le (h.ul b hb) hz, ?_, h.at_.keep fun b hb hl => hk b hl (fun e => hb (e ▸ hp)), h1 ▸ h.st, ?_, h.hk⟩
  · rw [h2]; exact h.pm.keep (hk _ h.pm.lt h.qp)
  · rw [h3]
    refine ⟨h.vt.1, ?_⟩
    rcases h.vt.2 with h1 | ⟨g, cap, cur, h1, h2, h3, h4⟩
    · exact .inl h1
    · refine .inr ⟨g, cap, cur, h1, h2, ?_, h4⟩
      rw [hk g (Array.getElem?_eq_some_iff.1 h3).1 (h.vv g (by injection h1 with h1; rw [h1]; rfl)).2.1, h3]
  · rw [h4]; exact h.hv.keep fun b hb hl => hk b hl (fun e => hb (e ▸ hp))
theorem CX.to {fb p : Nat} {w w' : World} {V U : Nat → Prop} {C C' : Cr} {m : Mb} (h : CX fb w p V U C m) (hb : Bx w' p (m.cells C')) (hk : w.grownBy w' (some p)) (h1 : C'.s = C.s) (h2 : C'.peers = C.peers) (h3 : C'.votes = C.votes) (h4 : C'.hv = C.hv) : CX fb w' p V U C' m := by
  refine h.hold' hb ?_ hk.size h1 h2 h3 h4
  exact fun b hl hb => hk.block b hl fun e => hb (by injection e)
set_option maxHeartbeats 1600000 in
theorem follow_any {fb p : Nat} {w : World} {V U : Nat → Prop} {C : Cr} {m : Mb} (leader : Int) (h : CX fb w p V U C m) :
    Calls Tryz.prog 66 #[.pointer (some ⟨p, 0, none⟩), .int .i64 leader] w (fun e w' => e = .returned (.tuple #[]) ∧ CTo fb w p V U (C.follow leader) w' V U m) := by
  have c7 : w.cell? ⟨p, 7, none⟩ = some (.int .i64 C.role) := h.bx.c 7
  have c8 : w.cell? ⟨p, 8, none⟩ = some (.int .i64 C.leader) := h.bx.c 8
  have f7 := h.bx.f 7
  have f8 := h.bx.f 8
  have H := Lib.hid h
  clear h
  go_enter Tryz.func66, Tryz.ntmps66
  go_wp2_with fail
  refine bodyPost_end (results_none rfl _ _ _) (by rfl) ?_
  have hg : w.grownBy ((w.setCell ⟨p, 7, none⟩ (.int .i64 0)).setCell ⟨p, 8, none⟩ (.int .i64 leader)) (some p) := gb_trans (gb_set _ p 7 _) (gb_set _ p 8 _)
  refine ⟨rfl, H.out.to ((H.out.bx.set 7 _).set 8 _) hg rfl rfl rfl rfl, fun _ h => .inl h, fun _ h => h, fun _ h => .inl h, (Kept.refl V w).grown hg fun b e => ?_⟩
  injection e with e
  subst e
  exact H.out.vp
end Go.Proofs.YtmhaahcbmdhinaaGreatDoor

namespace Go.Proofs.YtmhaahcbmdhinaaGreatDoor
open Go.RowKit
set_option maxRecDepth 100000
set_option linter.unusedVariables false
set_option linter.unusedSimpArgs false
theorem bset12 {B g : Nat} {a w : World} (h : Below B a w) (hg : B ≤ g) (v0 v1 v2 v3 v4 v5 v6 v7 v8 v9 v10 v11 : Value) : Below B a ((((((((((((w.setCell ⟨g, 0, none⟩ v0).setCell ⟨g, 1, none⟩ v1).setCell ⟨g, 2, none⟩ v2).setCell ⟨g, 3, none⟩ v3).setCell ⟨g, 4, none⟩ v4).setCell ⟨g, 5, none⟩ v5).setCell ⟨g, 6, none⟩ v6).setCell ⟨g, 7, none⟩ v7).setCell ⟨g, 8, none⟩ v8).setCell ⟨g, 9, none⟩ v9).setCell ⟨g, 10, none⟩ v10).setCell ⟨g, 11, none⟩ v11) :=
  ((((((((((((h.setCell (p := ⟨g, 0, none⟩) hg _).setCell (p := ⟨g, 1, none⟩) hg _).setCell (p := ⟨g, 2, none⟩) hg _).setCell (p := ⟨g, 3, none⟩) hg _).setCell (p := ⟨g, 4, none⟩) hg _).setCell (p := ⟨g, 5, none⟩) hg _).setCell (p := ⟨g, 6, none⟩) hg _).setCell (p := ⟨g, 7, none⟩) hg _).setCell (p := ⟨g, 8, none⟩) hg _).setCell (p := ⟨g, 9, none⟩) hg _).setCell (p := ⟨g, 10, none⟩) hg _).setCell (p := ⟨g, 11, none⟩) hg _)
def Cr.sayM (C : Cr) (kind dst : Int) : Mr := ⟨kind, C.id, dst, C.s.tm, 0, 0, 0, 0, false, 0, none, 0, 0, [], none, 0, 0, []⟩
set_option maxHeartbeats 3200000 in
theorem say_any {fb p : Nat} {w : World} {V U : Nat → Prop} {C : Cr} {m : Mb} (kind dst : Int) (h : CX fb w p V U C m) :
    Calls Tryz.prog 113 #[.pointer (some ⟨p, 0, none⟩), .int .i64 kind, .int .i64 dst] w (fun e w' => e = .returned (C.sayM kind dst).val ∧ Below w.heap.size w w') := by
  obtain ⟨W0, hW0⟩ : ∃ W0, W0 = w.alloc (.cells #[.int .i64 0, .int .i64 0, .int .i64 0, .int .i64 0, .int .i64 0, .int .i64 0, .int .i64 0, .int .i64 0, .bool false, .int .i64 0, .slice none 0 0, .slice none 0 0] 78) := ⟨_, rfl⟩
  have hb0 : Below w.heap.size w W0 := by subst hW0; exact (Below.refl _ _).alloc (Nat.le_refl _) _
  have b0 : Bx W0 w.heap.size #[.int .i64 0, .int .i64 0, .int .i64 0, .int .i64 0, .int .i64 0, .int .i64 0, .int .i64 0, .int .i64 0, .bool false, .int .i64 0, .slice none 0 0, .slice none 0 0] := by subst hW0; exact Bx.new _ _ _ rfl
  have c0 : W0.cell? ⟨p, 0, none⟩ = some (.int .i64 m.s.tm) := (h.below hb0).bx.c 0
  have c11 : W0.cell? ⟨p, 11, none⟩ = some (.int .i64 C.id) := (h.below hb0).bx.c 11
  rw [h.s_eq.1] at c0
  have HW := Lib.hid hW0
  have K := Lib.hid (And.intro hb0 b0)
  have r0 := b0.c 0
  have r1 := b0.c 1
  have r2 := b0.c 2
  have r3 := b0.c 3
  have r4 := b0.c 4
  have r5 := b0.c 5
  have r6 := b0.c 6
  have r7 := b0.c 7
  have r8 := b0.c 8
  have r9 := b0.c 9
  have r10 := b0.c 10
  have r11 := b0.c 11
  have f0 := b0.f 0
  have f1 := b0.f 1
  have f2 := b0.f 2
  have f3 := b0.f 3
  have f4 := b0.f 4
  have f5 := b0.f 5
  have f6 := b0.f 6
  have f7 := b0.f 7
  have f8 := b0.f 8
  have f9 := b0.f 9
  have f10 := b0.f 10
  have f11 := b0.f 11
  clear h hb0 b0 hW0
  go_enter Tryz.func113, Tryz.ntmps113
  go_upto_region 1 with (fail)
  rw [← HW.out]
  go_region_law (fail)
  all_goals
    go_wp2_with fail
    refine bodyPost_ret (by simp [results, Tryz.results113, go_sem, r0, r1, r2, r3, r4, r5, r6, r7, r8, r9, r10, r11]; rfl) rfl ?_
    exact ⟨rfl, (bset12 K.out.1 (Nat.le_refl _) _ _ _ _ _ _ _ _ _ _ _ _).drew⟩
end Go.Proofs.YtmhaahcbmdhinaaGreatDoor

namespace Go.Proofs.YtmhaahcbmdhinaaGreatDoor
open Go.RowKit
set_option maxRecDepth 100000
set_option linter.unusedVariables false
set_option linter.unusedSimpArgs false
theorem CX.termOf {fb p : Nat} {w : World} {V U : Nat → Prop} {C : Cr} {m : Mb} (h : CX fb w p V U C m) (ix : Int) : compL m.s.b m.s.t (m.s.L.map en) ix = C.termOf ix := by
  obtain ⟨_, _, k3, k4, k5, _⟩ := h.s_eq
  rw [k3, k4, k5]
  rfl
theorem CX.term {fb p : Nat} {w : World} {V U : Nat → Prop} {C : Cr} {m : Mb} (h : CX fb w p V U C m) (hf : m.s.Fit) (ix : Int) (W : World) (hb : Below w.heap.size w W) :
    Calls Tryz.prog 119 #[.agg #[.int .i64 m.s.b, .int .i64 m.s.t, .slice m.s.A m.s.n m.s.c], .int .i64 ix] W (TermPost W (C.termOf ix)) := by
  rw [← h.termOf]
  exact TermA_any _ _ _ _ _ _ _ _ (h.below hb).at_.l (h.at_.wel hf) hf.z.1
set_option maxHeartbeats 1600000 in
theorem ours_any {fb p : Nat} {w : World} {V U : Nat → Prop} {C : Cr} {m : Mb} (h : CX fb w p V U C m) (hf : m.s.Fit) :
    Calls Tryz.prog 60 #[.pointer (some ⟨p, 0, none⟩)] w (BoolPost w C.ours) := by
  have c2 : w.cell? ⟨p, 2, none⟩ = some (.int .i64 m.s.b) := h.bx.c 2
  have c3 : w.cell? ⟨p, 3, none⟩ = some (.int .i64 m.s.t) := h.bx.c 3
  have c4 : w.cell? ⟨p, 4, none⟩ = some (.slice m.s.A m.s.n m.s.c) := h.bx.c 4
  have c9 : w.cell? ⟨p, 9, none⟩ = some (.int .i64 C.commit) := h.bx.c 9
  have ht := h.term hf C.commit
  have hz : ∀ W, Below w.heap.size w W → W.cell? ⟨p, 0, none⟩ = some (.int .i64 C.s.tm) := fun W hb => by rw [← h.s_eq.1]; exact (h.below hb).bx.c 0
  have ho : C.ours = decide (C.termOf C.commit = (0, C.s.tm)) := rfl
  generalize C.termOf C.commit = r at ht ho
  obtain ⟨r1, r2⟩ := r
  obtain ⟨q, hq⟩ : ∃ q, C.ours = q := ⟨_, rfl⟩
  rw [hq] at ho ⊢
  have K := Lib.hid (And.intro ht (And.intro hz ho))
  clear h hf ht hz ho hq
  by_cases h0 : r1 = 0
  · subst h0
    by_cases e : r2 = C.s.tm
    · have e1 : (r2 == C.s.tm) = true := by simp [e]
      go_enter Tryz.func60, Tryz.ntmps60
      go_upto_region 1 with (fail)
      go_region_law (go_simp; go_at_call 119; refine (K.out.1 _ (Below.refl _ _).drew).mono ?_; rintro e w1 ⟨rfl, hb1⟩)
      all_goals
        have c0 := K.out.2.1 w1 ((Below.refl _ _).drew.trans hb1)
        unfold errC
        go_wp2_with fail
        go_ret
        refine ⟨?_, (Below.refl _ _).drew.trans hb1⟩
        rw [K.out.2.2, e]
        simp
    · have e1 : (r2 == C.s.tm) = false := by simp [e]
      go_enter Tryz.func60, Tryz.ntmps60
      go_upto_region 1 with (fail)
      go_region_law (go_simp; go_at_call 119; refine (K.out.1 _ (Below.refl _ _).drew).mono ?_; rintro e w1 ⟨rfl, hb1⟩)
      all_goals
        have c0 := K.out.2.1 w1 ((Below.refl _ _).drew.trans hb1)
        unfold errC
        go_wp2_with fail
        go_ret
        refine ⟨?_, (Below.refl _ _).drew.trans hb1⟩
        rw [K.out.2.2]
        simp [e]
  · have e1 : errC r1 = .iface 105 (.int .i64 r1) := if_neg h0
    go_enter Tryz.func60, Tryz.ntmps60
    go_upto_region 1 with (fail)
    go_region_law (go_simp; go_at_call 119; refine (K.out.1 _ (Below.refl _ _).drew).mono ?_; rintro e w1 ⟨rfl, hb1⟩)
    all_goals
      go_wp2_with fail
      go_ret
      refine ⟨?_, (Below.refl _ _).drew.trans hb1⟩
      rw [K.out.2.2]
      simp [h0]
end Go.Proofs.YtmhaahcbmdhinaaGreatDoor

namespace Go.Proofs.YtmhaahcbmdhinaaGreatDoor
set_option linter.unusedVariables false
set_option linter.unusedSimpArgs false
structure Pe.Ok (p : Pe) : Prop where
  nx : 1 ≤ p.nx ∧ p.nx ≤ 1099511627777
  mt : 0 ≤ p.mt ∧ p.mt ≤ 1099511627776
  of : 0 ≤ p.of ∧ p.of ≤ 1099511627776
  rd : 0 ≤ p.rd ∧ p.rd ≤ 1099511627776
/-- A member that may be; k: a bound of its rounds and of the votes that it was told. -/
structure Cr.Ok (C : Cr) (k : Nat) : Prop where
  may : C.s.may = true
  sn : C.s.sn.length ≤ 1048576
  id : 1 ≤ C.id ∧ C.id ≤ 64
  span : 2 ≤ C.span ∧ C.span ≤ 1000
  role : 0 ≤ C.role ∧ C.role ≤ 2
  leader : 0 ≤ C.leader ∧ C.leader ≤ 64
  commit : 0 ≤ C.commit ∧ C.commit ≤ 1099511627776
  round : 0 ≤ C.round ∧ C.round ≤ k
  gone : 0 ≤ C.gone ∧ C.gone ≤ 2000
  wait : 2 ≤ C.wait ∧ C.wait ≤ 2000
  votes : C.votes.length ≤ k ∧ ∀ v ∈ C.votes, 1 ≤ v ∧ v ≤ 64
  peers : ∀ w q, C.peers w = some q → (1 ≤ w ∧ w ≤ 64) ∧ q.Ok
  key : I64 C.key
  hv : C.hv.length ≤ 1048576
  big : 1 ≤ k ∧ k ≤ 1000000
section
variable {C : Cr} {k : Nat}
theorem Cr.Ok.mono {k' : Nat} (h : C.Ok k) (hk : k ≤ k') (hb : k' ≤ 1000000) : C.Ok k' :=
  ⟨h.may, h.sn, h.id, h.span, h.role, h.leader, h.commit, ⟨h.round.1, by have := h.round.2; omega⟩, h.gone, h.wait, ⟨Nat.le_trans h.votes.1 hk, h.votes.2⟩, h.peers, h.key, h.hv, by have := h.big; omega⟩
theorem Cr.Ok.last (h : C.Ok k) : 0 ≤ C.last ∧ C.last ≤ 1099511627776 := by
  obtain ⟨h1, _, h2, h3, _⟩ := St.may_iff h.may
  unfold Cr.last
  rcases Nat.eq_zero_or_pos C.s.l.length with h0 | h0
  · have e := lmay_last h1
    rw [e, h0]
    omega
  · obtain ⟨e, he, h8, _⟩ := lstA_len (b := C.s.b) h0
    have := lmay_at h1 he
    rw [h8]
    omega
theorem confD_may' {l : List UInt8} {cf : List Int} (h : confD l = some cf) : cmay cf = true := by
  unfold confD at h
  split at h
  · rename_i h1
    injection h with h
    rw [← h]
    exact h1.2
  · cases h
theorem upto_may (h : C.s.may = true) (ix : Int) : cmay (C.upto ix) = true := by
  have hc := (St.may_iff h).2.1
  unfold Cr.upto
  split
  · exact hc
  · rename_i e he
    cases hd : confD e.d with
    | none => exact hc
    | some cf => exact confD_may' hd
theorem members_may (h : C.s.may = true) : cmay C.members = true := upto_may h _
theorem mem_in {l : List Int} (h : cmay l = true) {w : Int} (hw : w ∈ l) : 1 ≤ w ∧ w ≤ 64 := by
  have := (cmay_iff.1 h).1 w hw
  omega
theorem others_in (h : C.s.may = true) {w : Int} (hw : w ∈ C.others) : 1 ≤ w ∧ w ≤ 64 := mem_in (members_may h) ((List.mem_filter.1 hw).1)
theorem others_len (h : C.s.may = true) : C.others.length ≤ 7 := Nat.le_trans (List.length_filter_le _ _) (cmay_iff.1 (members_may h)).2.2.2
theorem Cr.Ok.of (h : C.Ok k) (w : Int) : (C.of w).Ok := by
  unfold Cr.of
  cases hp : C.peers w with
  | none =>
    have := h.last
    exact ⟨⟨by show 1 ≤ C.last + 1; omega, by show C.last + 1 ≤ _; omega⟩, ⟨Int.le_refl 0, by show (0 : Int) ≤ _; omega⟩, ⟨Int.le_refl 0, by show (0 : Int) ≤ _; omega⟩, ⟨Int.le_refl 0, by show (0 : Int) ≤ _; omega⟩⟩
  | some q => exact (h.peers w q hp).2
theorem Cr.Ok.put (h : C.Ok k) {w : Int} (hw : 1 ≤ w ∧ w ≤ 64) {p : Pe} (hp : p.Ok) : (C.put w p).Ok k :=
  ⟨h.may, h.sn, h.id, h.span, h.role, h.leader, h.commit, h.round, h.gone, h.wait, h.votes, fun x q hx => by
    unfold Cr.put at hx
    dsimp only at hx
    split at hx
    · rename_i e
      injection hx with hx
      subst hx
      exact ⟨e ▸ hw, hp⟩
    · exact h.peers x q hx, h.key, h.hv, h.big⟩
theorem Cr.Ok.know (h : C.Ok k) {w : Int} (hw : 1 ≤ w ∧ w ≤ 64) : (C.know w).Ok k := h.put hw (h.of w)
theorem Cr.Ok.knowL : ∀ {l : List Int} {C : Cr}, C.Ok k → (∀ w ∈ l, 1 ≤ w ∧ w ≤ 64) → (C.knowL l).Ok k
  | [], _, h, _ => h
  | w :: l, C, h, hl => Cr.Ok.knowL (l := l) (C := C.know w) (h.know (hl w (by simp))) fun x hx => hl x (List.mem_cons_of_mem _ hx)
theorem Cr.Ok.sendL : ∀ {l : List Int} {C : Cr}, C.Ok k → (∀ w ∈ l, 1 ≤ w ∧ w ≤ 64) → (C.sendL l).1.Ok k
  | [], _, h, _ => h
  | w :: l, _, h, hl => Cr.Ok.sendL (l := l) (h.know (hl w (by simp))) fun x hx => hl x (List.mem_cons_of_mem _ hx)
theorem Cr.Ok.sendAll (h : C.Ok k) : C.sendAll.1.Ok k := h.sendL fun w hw => others_in h.may hw
theorem Cr.Ok.follow (h : C.Ok k) {l : Int} (hl : 0 ≤ l ∧ l ≤ 64) : (C.follow l).Ok k :=
  ⟨h.may, h.sn, h.id, h.span, ⟨Int.le_refl 0, by show (0 : Int) ≤ 2; decide⟩, hl, h.commit, h.round, h.gone, h.wait, h.votes, h.peers, h.key, h.hv, h.big⟩
theorem drw_in {span draw : Int} (h : 2 ≤ span ∧ span ≤ 1000) : 2 ≤ drw span draw ∧ drw span draw ≤ 2000 := by
  have h1 := Int.emod_nonneg (draw % 18446744073709551616) (b := ((span.toNat + 1 : Nat) : Int)) (by omega)
  have h2 := Int.emod_lt_of_pos (draw % 18446744073709551616) (b := ((span.toNat + 1 : Nat) : Int)) (by omega)
  unfold drw
  omega
theorem Cr.Ok.draws (h : C.Ok k) (draw : Int) : (C.draws draw).Ok k :=
  ⟨h.may, h.sn, h.id, h.span, h.role, h.leader, h.commit, h.round, ⟨Int.le_refl _, by show (0 : Int) ≤ 2000; decide⟩, drw_in h.span, h.votes, h.peers, h.key, h.hv, h.big⟩
theorem Cr.Ok.withLog (h : C.Ok k) {l : List En} (hm : ({ C.s with l := l } : St).may = true) : (C.withLog l).Ok k :=
  ⟨hm, h.sn, h.id, h.span, h.role, h.leader, h.commit, h.round, h.gone, h.wait, h.votes, h.peers, h.key, h.hv, h.big⟩
theorem srt_mem {l : List Int} {i : Nat} {z : Int} (h : (l.mergeSort fun x y => decide (x ≤ y)).getD i 0 = z) : z = 0 ∨ z ∈ l := by
  rw [List.getD_eq_getElem?_getD] at h
  cases hx : (l.mergeSort fun x y => decide (x ≤ y))[i]? with
  | none => rw [hx] at h; exact .inl h.symm
  | some y =>
    rw [hx] at h
    simp only [Option.getD_some] at h
    subst h
    exact .inr (List.mem_mergeSort.1 (List.mem_of_getElem? hx))
theorem Cr.Ok.reach (h : C.Ok k) (w : Int) : 0 ≤ C.reach w ∧ C.reach w ≤ 1099511627776 := by
  have hl := h.last
  unfold Cr.reach
  have h1 : 0 ≤ (if w = C.id then max 0 C.last else 0) ∧ (if w = C.id then max 0 C.last else 0) ≤ 1099511627776 := by split <;> omega
  have h2 : 0 ≤ max 0 ((C.peers w).elim 0 Pe.mt) ∧ max 0 ((C.peers w).elim 0 Pe.mt) ≤ 1099511627776 := by
    cases hp : C.peers w with
    | none => simp
    | some q =>
      have := (h.peers w q hp).2.mt
      simp only [Option.elim_some]
      omega
  omega
theorem Cr.Ok.agr (h : C.Ok k) (l : List Int) : 0 ≤ agr l C.reach ∧ agr l C.reach ≤ 1099511627776 := by
  unfold Go.Proofs.YtmhaahcbmdhinaaGreatDoor.agr
  split
  · obtain ⟨z, hz⟩ : ∃ z, ((l.map C.reach).mergeSort fun x y => decide (x ≤ y)).getD ((l.length - 1) / 2) 0 = z := ⟨_, rfl⟩
    rw [hz]
    rcases srt_mem hz with h1 | h1
    · omega
    · obtain ⟨w, _, rfl⟩ := List.mem_map.1 h1
      exact h.reach w
  · omega
theorem Cr.Ok.withCommit (h : C.Ok k) {n : Int} (hn : 0 ≤ n ∧ n ≤ 1099511627776) : ({ C with commit := n } : Cr).Ok k :=
  ⟨h.may, h.sn, h.id, h.span, h.role, h.leader, hn, h.round, h.gone, h.wait, h.votes, h.peers, h.key, h.hv, h.big⟩
theorem Cr.Ok.advance (h : C.Ok k) : C.advance.1.Ok k := by
  have hn := h.agr C.members
  unfold Cr.advance
  dsimp only
  split
  · exact h
  · split
    · exact (h.withCommit hn).follow (by omega)
    · exact (h.withCommit hn).sendAll
theorem Cr.Ok.tell (h : C.Ok k) : C.tell.1.Ok k := h.sendAll.advance
theorem rgt_snoc {ix : Int} : ∀ {l : List En} {tm : Int} {i : Nat} {e : En}, rgt ix tm i l = true → okE ix (lstB tm l) (i + l.length) e = true → rgt ix tm i (l ++ [e]) = true
  | [], tm, i, e, _, h => by
    simp only [List.nil_append, rgt, Bool.and_true]
    simpa [lstB] using h
  | x :: l, tm, i, e, h, h2 => by
    rw [rgt, Bool.and_eq_true] at h
    rw [List.cons_append, rgt, Bool.and_eq_true]
    refine ⟨h.1, rgt_snoc h.2 ?_⟩
    have e1 : lstB tm (x :: l) = lstB x.b l := by
      unfold lstB
      cases l with
      | nil => rfl
      | cons y l => rw [List.getLast?_cons_cons]; cases hg : (y :: l).getLast? with
        | none => simp at hg
        | some z => rfl
    rw [e1] at h2
    rw [show i + 1 + l.length = i + (x :: l).length by simp; omega]
    exact h2
theorem addL_may {s : St} (h : s.may = true) {kd : Int} {d : List UInt8} (hr : kd = 2 → (confD d).isNone = false) (h0 : (addL s.b s.t s.l s.tm kd d).1 = 0) : ({ s with l := (addL s.b s.t s.l s.tm kd d).2 } : St).may = true ∧ (addL s.b s.t s.l s.tm kd d).2 = s.l ++ [⟨lstA s.b s.l + 1, s.tm, kd, d⟩] := by
  obtain ⟨h1, h2, h3, h4, h5, h6, h7, h8, h9⟩ := St.may_iff h
  have hlt : lstB s.t s.l ≤ s.tm := by
    have := h
    unfold St.may at this
    simp only [Bool.and_eq_true, decide_eq_true_eq] at this
    exact this.1.1.1.2
  have hrd : (s.l.all fun e => !rbad e.c e.d) = true := by
    have := h
    unfold St.may at this
    simp only [Bool.and_eq_true, decide_eq_true_eq] at this
    exact this.1.1.1.1.2
  unfold addL at h0 ⊢
  split at h0
  · cases h0
  rename_i c1
  split at h0
  · cases h0
  rename_i c2
  split at h0
  · cases h0
  rename_i c3
  rw [if_neg c1, if_neg c2, if_neg c3]
  refine ⟨?_, rfl⟩
  have hl := lmay_last h1
  obtain ⟨k1, k2, k3⟩ := lmay_iff.1 h1
  unfold St.may
  simp only [Bool.and_eq_true, decide_eq_true_eq]
  refine ⟨⟨⟨⟨⟨⟨lmay_iff.2 ⟨k1, by simp; omega, rgt_snoc k3 ?_⟩, h2⟩, ?_⟩, ?_⟩, h7⟩, h8⟩, h9⟩
  · unfold okE
    simp only [Bool.and_eq_true, decide_eq_true_eq]
    refine ⟨⟨⟨⟨⟨⟨⟨⟨?_, ?_⟩, ?_⟩, ?_⟩, ?_⟩, ?_⟩, ?_⟩, ?_⟩, ?_⟩ <;> first | (rw [hl]; omega) | omega
  · rw [List.all_append, Bool.and_eq_true]
    refine ⟨hrd, ?_⟩
    simp only [List.all_cons, List.all_nil, Bool.and_true, rbad]
    by_cases hk : kd = 2
    · rw [hr hk]; simp
    · simp [hk]
  · unfold lstB
    simp
theorem Cr.Ok.grow (h : C.Ok k) {kd : Int} {d : List UInt8} (hr : kd = 2 → (confD d).isNone = false) (h0 : (addL C.s.b C.s.t C.s.l C.s.tm kd d).1 = 0) : (C.withLog (addL C.s.b C.s.t C.s.l C.s.tm kd d).2).Ok k := h.withLog (addL_may h.may hr h0).1
theorem Cr.Ok.leads (h : C.Ok k) : ({ C with role := 2, leader := C.id, gone := 0, peers := fun _ => none } : Cr).Ok k :=
  ⟨h.may, h.sn, h.id, h.span, by show (0 : Int) ≤ 2 ∧ (2 : Int) ≤ 2; decide, by have := h.id; exact ⟨by show 0 ≤ C.id; omega, this.2⟩, h.commit, h.round, by show (0 : Int) ≤ 0 ∧ (0 : Int) ≤ 2000; decide, h.wait, h.votes, (fun _ _ h => by cases h), h.key, h.hv, h.big⟩
theorem Cr.Ok.lead (h : C.Ok k) : C.lead.1.Ok k := by
  unfold Cr.lead
  dsimp only
  have h1 : (Cr.knowL { C with role := 2, leader := C.id, gone := 0, peers := fun _ => none } C.others).Ok k := h.leads.knowL fun w hw => others_in h.may hw
  split
  · rename_i h0
    exact (h1.grow (by decide) h0).tell
  · exact h1.follow (by omega)
theorem Cr.Ok.stood (h : C.Ok k) (ht : C.s.tm < 1099511627776) (draw : Int) : (({ C with s := { C.s with tm := C.s.tm + 1, vt := C.id }, role := 1, leader := 0, votes := [C.id] } : Cr).draws draw).Ok k := by
  have hm := h.may
  have hid := h.id
  refine Cr.Ok.draws (C := { C with s := { C.s with tm := C.s.tm + 1, vt := C.id }, role := 1, leader := 0, votes := [C.id] }) ⟨?_, h.sn, h.id, h.span, by show (0 : Int) ≤ 1 ∧ (1 : Int) ≤ 2; decide, by show (0 : Int) ≤ 0 ∧ (0 : Int) ≤ 64; decide, h.commit, h.round, h.gone, h.wait, ⟨h.big.1, ?_⟩, h.peers, h.key, h.hv, h.big⟩ draw
  · unfold St.may at hm ⊢
    simp only [Bool.and_eq_true, decide_eq_true_eq] at hm ⊢
    obtain ⟨⟨⟨⟨⟨⟨h1, h2⟩, h3⟩, h4⟩, h5⟩, h6⟩, h7⟩ := hm
    exact ⟨⟨⟨⟨⟨⟨h1, h2⟩, h3⟩, by omega⟩, by omega⟩, by omega⟩, by omega⟩
  · intro v hv
    rw [List.mem_singleton.1 hv]
    exact hid
theorem Cr.Ok.stand (h : C.Ok k) (ht : C.s.tm < 1099511627776) (draw : Int) : (C.stand draw).1.Ok k := by
  unfold Cr.stand
  dsimp only
  split
  · exact (h.stood ht draw).lead
  · exact h.stood ht draw
theorem Cr.Ok.goneTo (h : C.Ok k) {g : Int} (hg : 0 ≤ g ∧ g ≤ 2000) : ({ C with gone := g } : Cr).Ok k :=
  ⟨h.may, h.sn, h.id, h.span, h.role, h.leader, h.commit, h.round, hg, h.wait, h.votes, h.peers, h.key, h.hv, h.big⟩
theorem Cr.Ok.tick (h : C.Ok k) (draw : Int) : (C.tick draw).1.Ok k := by
  unfold Cr.tick
  dsimp only
  have hg := h.gone
  have hs := h.span
  have hw := h.wait
  have ht : C.span.tdiv 4 ≤ 250 := by rw [Int.tdiv_eq_ediv_of_nonneg (by omega)]; omega
  split
  · split
    · exact h.goneTo (by omega)
    · exact Cr.Ok.sendAll (h.goneTo (by omega))
  · split
    · exact h.goneTo (by omega)
    · split
      · exact h.goneTo (by omega)
      · rename_i h3
        exact Cr.Ok.stand (h.goneTo (by omega)) (by show C.s.tm < _; have : ¬ 1099511627776 ≤ C.s.tm := fun e => h3 (.inr e); omega) draw
theorem Cr.Ok.propose (h : C.Ok k) (kd : Int) (d : List UInt8) : (C.propose kd d).1.Ok k := by
  unfold Cr.propose
  dsimp only
  split
  · exact h
  split
  · exact h
  rename_i h2
  split
  · exact h
  rename_i h3
  refine Cr.Ok.tell (h.grow (fun hk => ?_) (Decidable.of_not_not h3))
  have h4 : C.change d = 0 := Decidable.of_not_not fun e => h2 ⟨hk, e⟩
  unfold Cr.change at h4
  split at h4
  · cases h4
  · cases hd : confD d with
    | none => rw [hd] at h4; cases h4
    | some l => rfl
theorem Cr.Ok.read (h : C.Ok k) (hk : k + 1 ≤ 1000000) : C.read.1.Ok (k + 1) := by
  unfold Cr.read
  split
  · exact h.mono (by omega) hk
  split
  · exact h.mono (by omega) hk
  have h1 := h.mono (k' := k + 1) (by omega) hk
  have hr := h.round
  exact Cr.Ok.sendAll ⟨h1.may, h1.sn, h1.id, h1.span, h1.role, h1.leader, h1.commit, ⟨by show 0 ≤ C.round + 1; omega, by show C.round + 1 ≤ _; omega⟩, h1.gone, h1.wait, h1.votes, h1.peers, h1.key, h1.hv, h1.big⟩
end
end Go.Proofs.YtmhaahcbmdhinaaGreatDoor

set_option maxRecDepth 100000
namespace Go.Proofs
open Go.Shelf
def Tryz.laysDf_ren : Go.Shelf.Ren := ⟨fun | 10 => 166 | 6 => 208 | n => n, fun | 22 => 39 | 23 => 3 | 25 => 68 | 3 => 3 | 4 => 4 | 0 => 0 | n => n, fun | n => n⟩
theorem Tryz.laysDf : Go.Proofs.SlLaysH.n10 Tryz.prog Tryz.laysDf_ren := {
  mixed := by kernel_rfl
  f6 := ⟨Tryz.f208.name, by decide, Tryz.func208.trans (congrArg some (by kernel_rfl))⟩
  f10 := ⟨Tryz.f166.name, by decide, Tryz.func166.trans (congrArg some (by kernel_rfl))⟩
  t0 := Tryz.underlying0
  a0 := Tryz.isAgg0
  z0 := Tryz.sizeOf0
  v0 := Tryz.zeroValue0
  t3 := Tryz.underlying3
  a3 := Tryz.isAgg3
  z3 := Tryz.sizeOf3
  v3 := Tryz.zeroValue3
  t4 := Tryz.underlying4
  a4 := Tryz.isAgg4
  z4 := Tryz.sizeOf4
  v4 := Tryz.zeroValue4
  t22 := Tryz.underlying39
  a22 := Tryz.isAgg39
  z22 := Tryz.sizeOf39
  v22 := Tryz.zeroValue39
  a23 := Tryz.isAgg3
  z23 := Tryz.sizeOf3
  t25 := Tryz.underlying68
  a25 := Tryz.isAgg68
  z25 := Tryz.sizeOf68
  v25 := Tryz.zeroValue68 }
end Go.Proofs

