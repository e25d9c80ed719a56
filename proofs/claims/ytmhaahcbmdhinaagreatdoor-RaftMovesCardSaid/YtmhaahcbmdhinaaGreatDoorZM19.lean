/- Plain member: what its numbers keep within, through all that it is asked for
   slices.DeleteFunc at the members, laid by the kit's own commands in plain words.
   Walks: (*raft.Core).others.
   In the raft laws' program there is no disk: of c03's XDk only what XKept has
   A pack.Writer that lies somewhere within U: what is laid may lie anywhere else, also behind it.
   A writer of the call's own, all along a call: it lies above what was there at W0. -/
import Derived.Test.YtmhaahcbmdhinaaGreatDoorZM9
import Derived.Test.YtmhaahcbmdhinaaGreatDoorZM8
import Derived.Shelf.SlicesE.DeleteFunc
import Derived.Test.YtmhaahcbmdhinaaGreatDoorProg
import Derived.Test.YtmhaahcbmdhinaaGreatDoorZM18
import Derived.Sort.OwnSortedInts
import Derived.Test.YtmhaahcbmdhinaaGreatDoorZM17
import Derived.Test.YtmhaahcbmdhinaaGreatDoorZM2
namespace Go.Proofs.YtmhaahcbmdhinaaGreatDoor
set_option linter.unusedVariables false
set_option linter.unusedSimpArgs false
structure Pe.Ok (p : Pe) : Prop where
 nx : 1 ≤ p.nx ∧ p.nx ≤ 1099511627777
 mt : 0 ≤ p.mt ∧ p.mt ≤ 1099511627776
 of : 0 ≤ p.of ∧ p.of ≤ 1099511627776
 rd : 0 ≤ p.rd ∧ p.rd ≤ 1099511627776
structure Cr.Ok (C : Cr) (k : Nat) : Prop where
 may : C.s.may = true
 sn : C.s.sn.length ≤ 1048576
 id : 1 ≤ C.id ∧ C.id ≤ 64
 span : 2 ≤ C.span ∧ C.span ≤ 1000
 role : 0 ≤ C.role ∧ C.role ≤ 2
 leader : 0 ≤ C.leader ∧ C.leader ≤ 64
 commit : 0 ≤ C.commit ∧ C.commit ≤ 1099511627776
 round : 0 ≤ C.round ∧ C.round ≤ k
 gone : 0 ≤ C.gone ∧ C.gone ≤ 2000
 wait : 2 ≤ C.wait ∧ C.wait ≤ 2000
 votes : C.votes.length ≤ k ∧ ∀ v ∈ C.votes, 1 ≤ v ∧ v ≤ 64
 peers : ∀ w q, C.peers w = some q → (1 ≤ w ∧ w ≤ 64) ∧ q.Ok
 key : I64 C.key
 hv : C.hv.length ≤ 1048576
 big : 1 ≤ k ∧ k ≤ 1000000
section
variable {C : Cr} {k : Nat}
theorem Cr.Ok.mono {k' : Nat} (h : C.Ok k) (hk : k ≤ k') (hb : k' ≤ 1000000) : C.Ok k' :=
 ⟨h.may, h.sn, h.id, h.span, h.role, h.leader, h.commit, ⟨h.round.1, by have := h.round.2; omega⟩, h.gone, h.wait, ⟨Nat.le_trans h.votes.1 hk, h.votes.2⟩, h.peers, h.key, h.hv, by have := h.big; omega⟩
theorem Cr.Ok.last (h : C.Ok k) : 0 ≤ C.last ∧ C.last ≤ 1099511627776 := by
 obtain ⟨h1, _, h2, h3, _⟩ := St.may_iff h.may
 unfold Cr.last
 rcases Nat.eq_zero_or_pos C.s.l.length with h0 | h0
 ·have e := lmay_last h1
  rw [e, h0]
  omega
 ·obtain ⟨e, he, h8, _⟩ := lstA_len (b := C.s.b) h0
  have := lmay_at h1 he
  rw [h8]
  omega
theorem confD_may' {l : List UInt8} {cf : List Int} (h : confD l = some cf) : cmay cf = true := by
 unfold confD at h
 split at h
 ·rename_i h1
  injection h with h
  rw [← h]
  exact h1.2
 ·cases h
theorem upto_may (h : C.s.may = true) (ix : Int) : cmay (C.upto ix) = true := by
 have hc := (St.may_iff h).2.1
 unfold Cr.upto
 split
 ·exact hc
 ·rename_i e he
  cases hd : confD e.d with
  | none => exact hc
  | some cf => exact confD_may' hd
theorem members_may (h : C.s.may = true) : cmay C.members = true := upto_may h _
theorem mem_in {l : List Int} (h : cmay l = true) {w : Int} (hw : w ∈ l) : 1 ≤ w ∧ w ≤ 64 := by
 have := (cmay_iff.1 h).1 w hw
 omega
theorem others_in (h : C.s.may = true) {w : Int} (hw : w ∈ C.others) : 1 ≤ w ∧ w ≤ 64 := mem_in (members_may h) ((List.mem_filter.1 hw).1)
theorem others_len (h : C.s.may = true) : C.others.length ≤ 7 := Nat.le_trans (List.length_filter_le _ _) (cmay_iff.1 (members_may h)).2.2.2
theorem Cr.Ok.of (h : C.Ok k) (w : Int) : (C.of w).Ok := by
 unfold Cr.of
 cases hp : C.peers w with
 | none =>
  have := h.last
  exact ⟨⟨by show 1 ≤ C.last + 1; omega, by show C.last + 1 ≤ _; omega⟩, ⟨Int.le_refl 0, by show (0 : Int) ≤ _; omega⟩, ⟨Int.le_refl 0, by show (0 : Int) ≤ _; omega⟩, ⟨Int.le_refl 0, by show (0 : Int) ≤ _; omega⟩⟩
 | some q => exact (h.peers w q hp).2
theorem Cr.Ok.put (h : C.Ok k) {w : Int} (hw : 1 ≤ w ∧ w ≤ 64) {p : Pe} (hp : p.Ok) : (C.put w p).Ok k :=
 ⟨h.may, h.sn, h.id, h.span, h.role, h.leader, h.commit, h.round, h.gone, h.wait, h.votes, fun x q hx => by
  unfold Cr.put at hx
  dsimp only at hx
  split at hx
  ·rename_i e
   injection hx with hx
   subst hx
   exact ⟨e ▸ hw, hp⟩
  ·exact h.peers x q hx, h.key, h.hv, h.big⟩
theorem Cr.Ok.know (h : C.Ok k) {w : Int} (hw : 1 ≤ w ∧ w ≤ 64) : (C.know w).Ok k := h.put hw (h.of w)
theorem Cr.Ok.knowL : ∀ {l : List Int} {C : Cr}, C.Ok k → (∀ w ∈ l, 1 ≤ w ∧ w ≤ 64) → (C.knowL l).Ok k
 | [], _, h, _ => h
 | w :: l, C, h, hl => Cr.Ok.knowL (l := l) (C := C.know w) (h.know (hl w (by simp))) fun x hx => hl x (List.mem_cons_of_mem _ hx)
theorem Cr.Ok.sendL : ∀ {l : List Int} {C : Cr}, C.Ok k → (∀ w ∈ l, 1 ≤ w ∧ w ≤ 64) → (C.sendL l).1.Ok k
 | [], _, h, _ => h
 | w :: l, _, h, hl => Cr.Ok.sendL (l := l) (h.know (hl w (by simp))) fun x hx => hl x (List.mem_cons_of_mem _ hx)
theorem Cr.Ok.sendAll (h : C.Ok k) : C.sendAll.1.Ok k := h.sendL fun w hw => others_in h.may hw
theorem Cr.Ok.follow (h : C.Ok k) {l : Int} (hl : 0 ≤ l ∧ l ≤ 64) : (C.follow l).Ok k :=
 ⟨h.may, h.sn, h.id, h.span, ⟨Int.le_refl 0, by show (0 : Int) ≤ 2; decide⟩, hl, h.commit, h.round, h.gone, h.wait, h.votes, h.peers, h.key, h.hv, h.big⟩
theorem drw_in {span draw : Int} (h : 2 ≤ span ∧ span ≤ 1000) : 2 ≤ drw span draw ∧ drw span draw ≤ 2000 := by
 have h1 := Int.emod_nonneg (draw % 18446744073709551616) (b := ((span.toNat + 1 : Nat) : Int)) (by omega)
 have h2 := Int.emod_lt_of_pos (draw % 18446744073709551616) (b := ((span.toNat + 1 : Nat) : Int)) (by omega)
 unfold drw
 omega
theorem Cr.Ok.draws (h : C.Ok k) (draw : Int) : (C.draws draw).Ok k :=
 ⟨h.may, h.sn, h.id, h.span, h.role, h.leader, h.commit, h.round, ⟨Int.le_refl _, by show (0 : Int) ≤ 2000; decide⟩, drw_in h.span, h.votes, h.peers, h.key, h.hv, h.big⟩
theorem Cr.Ok.withLog (h : C.Ok k) {l : List En} (hm : ({ C.s with l := l } : St).may = true) : (C.withLog l).Ok k :=
 ⟨hm, h.sn, h.id, h.span, h.role, h.leader, h.commit, h.round, h.gone, h.wait, h.votes, h.peers, h.key, h.hv, h.big⟩
theorem srt_mem {l : List Int} {i : Nat} {z : Int} (h : (l.mergeSort fun x y => decide (x ≤ y)).getD i 0 = z) : z = 0 ∨ z ∈ l := by
 rw [List.getD_eq_getElem?_getD] at h
 cases hx : (l.mergeSort fun x y => decide (x ≤ y))[i]? with
 | none => rw [hx] at h; exact .inl h.symm
 | some y =>
  rw [hx] at h
  simp only [Option.getD_some] at h
  subst h
  exact .inr (List.mem_mergeSort.1 (List.mem_of_getElem? hx))
theorem Cr.Ok.reach (h : C.Ok k) (w : Int) : 0 ≤ C.reach w ∧ C.reach w ≤ 1099511627776 := by
 have hl := h.last
 unfold Cr.reach
 have h1 : 0 ≤ (if w = C.id then max 0 C.last else 0) ∧ (if w = C.id then max 0 C.last else 0) ≤ 1099511627776 := by split <;> omega
 have h2 : 0 ≤ max 0 ((C.peers w).elim 0 Pe.mt) ∧ max 0 ((C.peers w).elim 0 Pe.mt) ≤ 1099511627776 := by
  cases hp : C.peers w with
  | none => simp
  | some q =>
   have := (h.peers w q hp).2.mt
   simp only [Option.elim_some]
   omega
 omega
theorem Cr.Ok.agr (h : C.Ok k) (l : List Int) : 0 ≤ agr l C.reach ∧ agr l C.reach ≤ 1099511627776 := by
 unfold Go.Proofs.YtmhaahcbmdhinaaGreatDoor.agr
 split
 ·obtain ⟨z, hz⟩ : ∃ z, ((l.map C.reach).mergeSort fun x y => decide (x ≤ y)).getD ((l.length - 1) / 2) 0 = z := ⟨_, rfl⟩
  rw [hz]
  rcases srt_mem hz with h1 | h1
  ·omega
  ·obtain ⟨w, _, rfl⟩ := List.mem_map.1 h1
   exact h.reach w
 ·omega
theorem Cr.Ok.withCommit (h : C.Ok k) {n : Int} (hn : 0 ≤ n ∧ n ≤ 1099511627776) : ({ C with commit := n } : Cr).Ok k :=
 ⟨h.may, h.sn, h.id, h.span, h.role, h.leader, hn, h.round, h.gone, h.wait, h.votes, h.peers, h.key, h.hv, h.big⟩
theorem Cr.Ok.advance (h : C.Ok k) : C.advance.1.Ok k := by
 have hn := h.agr C.members
 unfold Cr.advance
 dsimp only
 split
 ·exact h
 ·split
  ·exact (h.withCommit hn).follow (by omega)
  ·exact (h.withCommit hn).sendAll
theorem Cr.Ok.tell (h : C.Ok k) : C.tell.1.Ok k := h.sendAll.advance
theorem rgt_snoc {ix : Int} : ∀ {l : List En} {tm : Int} {i : Nat} {e : En}, rgt ix tm i l = true → okE ix (lstB tm l) (i + l.length) e = true → rgt ix tm i (l ++ [e]) = true
 | [], tm, i, e, _, h => by
  simp only [List.nil_append, rgt, Bool.and_true]
  simpa [lstB] using h
 | x :: l, tm, i, e, h, h2 => by
  rw [rgt, Bool.and_eq_true] at h
  rw [List.cons_append, rgt, Bool.and_eq_true]
  refine ⟨h.1, rgt_snoc h.2 ?_⟩
  have e1 : lstB tm (x :: l) = lstB x.b l := by
   unfold lstB
   cases l with
   | nil => rfl
   | cons y l => rw [List.getLast?_cons_cons]; cases hg : (y :: l).getLast? with
    | none => simp at hg
    | some z => rfl
  rw [e1] at h2
  rw [show i + 1 + l.length = i + (x :: l).length by simp; omega]
  exact h2
theorem addL_may {s : St} (h : s.may = true) {kd : Int} {d : List UInt8} (hr : kd = 2 → (confD d).isNone = false) (h0 : (addL s.b s.t s.l s.tm kd d).1 = 0) : ({ s with l := (addL s.b s.t s.l s.tm kd d).2 } : St).may = true ∧ (addL s.b s.t s.l s.tm kd d).2 = s.l ++ [⟨lstA s.b s.l + 1, s.tm, kd, d⟩] := by
 obtain ⟨h1, h2, h3, h4, h5, h6, h7, h8, h9⟩ := St.may_iff h
 have hlt : lstB s.t s.l ≤ s.tm := by
  have := h
  unfold St.may at this
  simp only [Bool.and_eq_true, decide_eq_true_eq] at this
  exact this.1.1.1.2
 have hrd : (s.l.all fun e => !rbad e.c e.d) = true := by
  have := h
  unfold St.may at this
  simp only [Bool.and_eq_true, decide_eq_true_eq] at this
  exact this.1.1.1.1.2
 unfold addL at h0 ⊢
 split at h0
 ·cases h0
 rename_i c1
 split at h0
 ·cases h0
 rename_i c2
 split at h0
 ·cases h0
 rename_i c3
 rw [if_neg c1, if_neg c2, if_neg c3]
 refine ⟨?_, rfl⟩
 have hl := lmay_last h1
 obtain ⟨k1, k2, k3⟩ := lmay_iff.1 h1
 unfold St.may
 simp only [Bool.and_eq_true, decide_eq_true_eq]
 refine ⟨⟨⟨⟨⟨⟨lmay_iff.2 ⟨k1, by simp; omega, rgt_snoc k3 ?_⟩, h2⟩, ?_⟩, ?_⟩, h7⟩, h8⟩, h9⟩
 ·unfold okE
  simp only [Bool.and_eq_true, decide_eq_true_eq]
  refine ⟨⟨⟨⟨⟨⟨⟨⟨?_, ?_⟩, ?_⟩, ?_⟩, ?_⟩, ?_⟩, ?_⟩, ?_⟩, ?_⟩ <;> first | (rw [hl]; omega) | omega
 ·rw [List.all_append, Bool.and_eq_true]
  refine ⟨hrd, ?_⟩
  simp only [List.all_cons, List.all_nil, Bool.and_true, rbad]
  by_cases hk : kd = 2
  ·rw [hr hk]; simp
  ·simp [hk]
 ·unfold lstB
  simp
theorem Cr.Ok.grow (h : C.Ok k) {kd : Int} {d : List UInt8} (hr : kd = 2 → (confD d).isNone = false) (h0 : (addL C.s.b C.s.t C.s.l C.s.tm kd d).1 = 0) : (C.withLog (addL C.s.b C.s.t C.s.l C.s.tm kd d).2).Ok k := h.withLog (addL_may h.may hr h0).1
theorem Cr.Ok.leads (h : C.Ok k) : ({ C with role := 2, leader := C.id, gone := 0, peers := fun _ => none } : Cr).Ok k :=
 ⟨h.may, h.sn, h.id, h.span, by show (0 : Int) ≤ 2 ∧ (2 : Int) ≤ 2; decide, by have := h.id; exact ⟨by show 0 ≤ C.id; omega, this.2⟩, h.commit, h.round, by show (0 : Int) ≤ 0 ∧ (0 : Int) ≤ 2000; decide, h.wait, h.votes, (fun _ _ h => by cases h), h.key, h.hv, h.big⟩
theorem Cr.Ok.lead (h : C.Ok k) : C.lead.1.Ok k := by
 unfold Cr.lead
 dsimp only
 have h1 : (Cr.knowL { C with role := 2, leader := C.id, gone := 0, peers := fun _ => none } C.others).Ok k := h.leads.knowL fun w hw => others_in h.may hw
 split
 ·rename_i h0
  exact (h1.grow (by decide) h0).tell
 ·exact h1.follow (by omega)
theorem Cr.Ok.stood (h : C.Ok k) (ht : C.s.tm < 1099511627776) (draw : Int) : (({ C with s := { C.s with tm := C.s.tm + 1, vt := C.id }, role := 1, leader := 0, votes := [C.id] } : Cr).draws draw).Ok k := by
 have hm := h.may
 have hid := h.id
 refine Cr.Ok.draws (C := { C with s := { C.s with tm := C.s.tm + 1, vt := C.id }, role := 1, leader := 0, votes := [C.id] }) ⟨?_, h.sn, h.id, h.span, by show (0 : Int) ≤ 1 ∧ (1 : Int) ≤ 2; decide, by show (0 : Int) ≤ 0 ∧ (0 : Int) ≤ 64; decide, h.commit, h.round, h.gone, h.wait, ⟨h.big.1, ?_⟩, h.peers, h.key, h.hv, h.big⟩ draw
 ·unfold St.may at hm ⊢
  simp only [Bool.and_eq_true, decide_eq_true_eq] at hm ⊢
  obtain ⟨⟨⟨⟨⟨⟨h1, h2⟩, h3⟩, h4⟩, h5⟩, h6⟩, h7⟩ := hm
  exact ⟨⟨⟨⟨⟨⟨h1, h2⟩, h3⟩, by omega⟩, by omega⟩, by omega⟩, by omega⟩
 ·intro v hv
  rw [List.mem_singleton.1 hv]
  exact hid
theorem Cr.Ok.stand (h : C.Ok k) (ht : C.s.tm < 1099511627776) (draw : Int) : (C.stand draw).1.Ok k := by
 unfold Cr.stand
 dsimp only
 split
 ·exact (h.stood ht draw).lead
 ·exact h.stood ht draw
theorem Cr.Ok.goneTo (h : C.Ok k) {g : Int} (hg : 0 ≤ g ∧ g ≤ 2000) : ({ C with gone := g } : Cr).Ok k :=
 ⟨h.may, h.sn, h.id, h.span, h.role, h.leader, h.commit, h.round, hg, h.wait, h.votes, h.peers, h.key, h.hv, h.big⟩
theorem Cr.Ok.tick (h : C.Ok k) (draw : Int) : (C.tick draw).1.Ok k := by
 unfold Cr.tick
 dsimp only
 have hg := h.gone
 have hs := h.span
 have hw := h.wait
 have ht : C.span.tdiv 4 ≤ 250 := by rw [Int.tdiv_eq_ediv_of_nonneg (by omega)]; omega
 split
 ·split
  ·exact h.goneTo (by omega)
  ·exact Cr.Ok.sendAll (h.goneTo (by omega))
 ·split
  ·exact h.goneTo (by omega)
  ·split
   ·exact h.goneTo (by omega)
   ·rename_i h3
    exact Cr.Ok.stand (h.goneTo (by omega)) (by show C.s.tm < _; have : ¬ 1099511627776 ≤ C.s.tm := fun e => h3 (.inr e); omega) draw
theorem Cr.Ok.propose (h : C.Ok k) (kd : Int) (d : List UInt8) : (C.propose kd d).1.Ok k := by
 unfold Cr.propose
 dsimp only
 split
 ·exact h
 split
 ·exact h
 rename_i h2
 split
 ·exact h
 rename_i h3
 refine Cr.Ok.tell (h.grow (fun hk => ?_) (Decidable.of_not_not h3))
 have h4 : C.change d = 0 := Decidable.of_not_not fun e => h2 ⟨hk, e⟩
 unfold Cr.change at h4
 split at h4
 ·cases h4
 ·cases hd : confD d with
  | none => rw [hd] at h4; cases h4
  | some l => rfl
end
end Go.Proofs.YtmhaahcbmdhinaaGreatDoor
set_option maxRecDepth 100000
namespace Go.Proofs
open Go.Shelf
def Tryz.laysDf_ren : Go.Shelf.Ren := ⟨fun | 10 => 166 | 6 => 208 | n => n, fun | 22 => 39 | 23 => 3 | 25 => 68 | 3 => 3 | 4 => 4 | 0 => 0 | n => n, fun | n => n⟩
theorem Tryz.laysDf : Go.Proofs.SlLaysH.n10 Tryz.prog Tryz.laysDf_ren := {
 mixed := by kernel_rfl
 f6 := ⟨Tryz.f208.name, by decide, Tryz.func208.trans (congrArg some (by kernel_rfl))⟩
 f10 := ⟨Tryz.f166.name, by decide, Tryz.func166.trans (congrArg some (by kernel_rfl))⟩
 t0 := Tryz.underlying0
 a0 := Tryz.isAgg0
 z0 := Tryz.sizeOf0
 v0 := Tryz.zeroValue0
 t3 := Tryz.underlying3
 a3 := Tryz.isAgg3
 z3 := Tryz.sizeOf3
 v3 := Tryz.zeroValue3
 t4 := Tryz.underlying4
 a4 := Tryz.isAgg4
 z4 := Tryz.sizeOf4
 v4 := Tryz.zeroValue4
 t22 := Tryz.underlying39
 a22 := Tryz.isAgg39
 z22 := Tryz.sizeOf39
 v22 := Tryz.zeroValue39
 a23 := Tryz.isAgg3
 z23 := Tryz.sizeOf3
 t25 := Tryz.underlying68
 a25 := Tryz.isAgg68
 z25 := Tryz.sizeOf68
 v25 := Tryz.zeroValue68 }
end Go.Proofs
namespace Go.Proofs.YtmhaahcbmdhinaaGreatDoor
open Go.RowKit Go.Shelf Go.Sort
set_option maxRecDepth 100000
set_option linter.unusedVariables false
set_option linter.unusedSimpArgs false
theorem oth1_any (B p : Nat) (x id : Int) (W : World) (hB : W.cell? ⟨B, 0, none⟩ = some (.pointer (some ⟨p, 0, none⟩))) (hp : W.cell? ⟨p, 11, none⟩ = some (.int .i64 id)) :
  FnGives Tryz.prog 167 #[.pointer (some ⟨B, 0, none⟩)] #[.int .i64 x] (.bool (x == id)) W := by
 show Calls Tryz.prog 167 #[.int .i64 x, .pointer (some ⟨B, 0, none⟩)] W _
 go_enter Tryz.func167, Tryz.ntmps167
 go_wp2_with fail
 go_ret
 exact ⟨rfl, 0, rfl⟩
theorem delf_any (B p : Nat) (id : Int) (base n c : Nat) (A : Option Addr) (l : List Int) (w : World) (ho : w.ownsRow base 3 1 (.slice A n c) n (ii l)) (hn : n ≤ 1000000) (hB : w.cell? ⟨B, 0, none⟩ = some (.pointer (some ⟨p, 0, none⟩))) (hp : w.cell? ⟨p, 11, none⟩ = some (.int .i64 id))
  (h1 : B < base) (h2 : p < base) (h0 : 1 ≤ n) :
  Calls Tryz.prog 166 #[.slice A n c, .func (.func 167) #[] #[.pointer (some ⟨B, 0, none⟩)]] w (fun e w' => ∃ k, e = .returned (.slice A k c) ∧ w'.ownsRow base 3 1 (.slice A k c) k (ii (l.filter fun x => !decide (x = id))) ∧ w.grownBy w' (A.map (·.block))) := by
 have hl : l.length = n := by have := ho.1; simpa [ii] using this
 have hBl : B < w.heap.size := World.block_lt_of_cell? w _ hB
 have hpl : p < w.heap.size := World.block_lt_of_cell? w _ hp
 rcases ho.2 with ⟨k1, k2⟩ | ⟨g, cap, cur, hv, hbase, hb, k1, k2, k3, k4⟩
 ·omega
 injection hv with hv1 _ hv3
 subst hv1 hv3
 subst hl
 have hH : Holds (Value.int .i64) w g 0 l.toArray := holds_of_blockI hb (by simpa [ii] using k4)
 have hgl : g < w.heap.size := (Array.getElem?_eq_some_iff.1 hb).1
 have hpa : PredAt Tryz.prog 167 #[.pointer (some ⟨B, 0, none⟩)] (Value.int .i64) (fun x => x == id) w := fun W x hbw =>
  oth1_any B p x id W ((hbw.cell (p := ⟨B, 0, none⟩) hBl).trans hB) ((hbw.cell (p := ⟨p, 11, none⟩) hpl).trans hp)
 have hpo : PredOver Tryz.prog 167 #[.pointer (some ⟨B, 0, none⟩)] (Value.int .i64) (fun x => x == id) g 0 l.toArray.size w := fun m os dk x _ => by
  refine oth1_any B p x id _ ?_ ?_
  ·unfold sortWorld
   rw [cell?_grow _ _ _ (by show B < (putRow _ _ _ _ _).heap.size; rw [size_putRow]; exact hBl), cell?_putRow_other _ _ g 0 _ _ (Or.inl (by show B ≠ g; omega))]
   exact hB
  ·unfold sortWorld
   rw [cell?_grow _ _ _ (by show p < (putRow _ _ _ _ _).heap.size; rw [size_putRow]; exact hpl), cell?_putRow_other _ _ g 0 _ _ (Or.inl (by show p ≠ g; omega))]
   exact hp
 have eg : ∀ args w, (callFunc 167 args).run Tryz.prog w = .ok (.enter 167 args) w := enters_of Tryz.func167 (by kernel_rfl) rfl
 have hc := AnyE.slices_DeleteFunc Tryz.laysDf (Value.int .i64) (fun _ => rfl) (fun x => x == id) 167 #[.pointer (some ⟨B, 0, none⟩)] eg 0 Tryz.zeroValue3 g 0 c l.toArray w hpa hpo hH (by simp; omega) (by simpa using k1)
 have hc2 : Calls Tryz.prog 166 #[.slice (some ⟨g, 0, none⟩) l.toArray.size c, .func (.func 167) #[] #[.pointer (some ⟨B, 0, none⟩)]] w _ := hc
 have e1 : (l.toArray.toList.filter fun x => !(x == id)) = l.filter fun x => !decide (x = id) := by
  show (l.filter fun x => !(x == id)) = _
  congr 1
 rw [e1] at hc2
 have hle : (l.filter fun x => !decide (x = id)).length ≤ l.length := List.length_filter_le _ _
 refine hc2.mono ?_
 rintro e w' ⟨rfl, q, rfl⟩
 refine ⟨_, rfl, ?_, ?_⟩
 ·have h5 := ownsRow_sortedI (ss := l) (ts := (l.filter fun x => !decide (x = id)) ++ List.replicate (l.toArray.size - (l.filter fun x => !decide (x = id)).length) 0) (n := q) (os := #[]) (by simp; omega) hbase hb k1 k2 k3
  rw [grow_empty] at h5
  have h6 := own_take h5 hle
  rw [← List.map_take, Nat.mul_one, List.take_left' rfl] at h6
  exact h6
 ·have h5 := grownBy_sortedI (w := w) (g := g) (n := q) (os := #[]) ((l.filter fun x => !decide (x = id)) ++ List.replicate (l.toArray.size - (l.filter fun x => !decide (x = id)).length) 0).toArray
  rw [grow_empty] at h5
  exact h5
set_option maxHeartbeats 1600000 in
theorem others_any {fb p : Nat} {w : World} {V U : Nat → Prop} {C : Cr} {m : Mb} (h : CX fb w p V U C m) (hf : m.s.Fit) (hm : C.s.may = true) (hev : EvW w w.heap.size) :
  Calls Tryz.prog 106 #[.pointer (some ⟨p, 0, none⟩)] w (ConfPost w C.others) := by
 obtain ⟨W0, hW0⟩ : ∃ W0, W0 = w.alloc (.cells #[.pointer (some ⟨p, 0, none⟩)] 31) := ⟨_, rfl⟩
 have b0 : Bx W0 w.heap.size #[.pointer (some ⟨p, 0, none⟩)] := by subst hW0; exact Bx.new _ _ _ rfl
 have hb0 : Below w.heap.size w W0 := by subst hW0; exact (Below.refl _ _).alloc (Nat.le_refl _) _
 have hz : W0.heap.size = w.heap.size + 1 := by subst hW0; simp
 have hmb := members_any (h.below hb0) hf hm ((hev.below hb0 (Nat.le_refl _)).mono hb0.size)
 have hpl := h.bx.lt
 have hlen := (cmay_iff.1 (members_may hm)).2.2
 have hc11 : ∀ W, Below W0.heap.size W0 W → W.cell? ⟨p, 11, none⟩ = some (.int .i64 C.id) := fun W hb => ((h.below hb0).below hb).bx.c 11
 have HW := Lib.hid hW0
 have K := Lib.hid (And.intro b0 (And.intro hb0 (And.intro hz (And.intro hpl (And.intro hlen hc11)))))
 have Hmb := Lib.hid hmb
 have c0 : W0.cell? ⟨w.heap.size, 0, none⟩ = some (.pointer (some ⟨p, 0, none⟩)) := b0.c 0
 clear h hf hm hev hmb b0 hb0 hz hpl hlen hc11 hW0
 go_enter Tryz.func106, Tryz.ntmps106
 go_upto_region 1 with (fail)
 rw [← HW.out]
 go_wp2_with fail
 refine Hmb.out.mono ?_
 intro e w1 h1
 obtain ⟨A, n, c, rfl, o1, hb1⟩ := h1
 have hl1 : C.members.length = n := by have := o1.1; simpa [ii] using this
 have hd := delf_any w.heap.size p C.id W0.heap.size n c A C.members w1 o1 (by have := K.out.2.2.2.2.1; omega) ((K.out.1.below hb1).c 0) (K.out.2.2.2.2.2 w1 hb1) (by have := K.out.2.2.1; omega) (by have := K.out.2.2.1; have := K.out.2.2.2.1; omega) (by have := K.out.2.2.2.2.1; omega)
 have Hd := Lib.hid hd
 have O := Lib.hid (And.intro o1 hb1)
 clear hd o1 hb1 hl1
 go_wp2_with fail
 refine Hd.out.mono ?_
 rintro e w2 ⟨k, rfl, o2, g2⟩
 go_wp2_with fail
 go_ret
 have hlt := own_lt O.out.1
 refine ⟨A, k, c, rfl, own_mono o2 K.out.2.1.size, (K.out.2.1.trans (O.out.2.mono K.out.2.1.size)).grown g2 ?_ ?_⟩
 ·exact Nat.le_trans K.out.2.1.size O.out.2.size
 ·intro q hq
  exact Nat.le_trans K.out.2.1.size (hlt q hq).1
end Go.Proofs.YtmhaahcbmdhinaaGreatDoor
namespace Go.Proofs.YtmhaahcbmdhinaaGreatDoor
end Go.Proofs.YtmhaahcbmdhinaaGreatDoor
namespace Go.Proofs.YtmhaahcbmdhinaaGreatDoor
open Go.RowKit
set_option maxRecDepth 100000
set_option linter.unusedVariables false
set_option linter.unusedSimpArgs false
theorem append_str_at {P : Program} {w w' : World} {base : Nat} {t u ty e : TypeId} (ht : P.underlying t = some (.slice e)) (hu : P.underlying u = some .string) (he : Elem P e (.int .u8 0) 1 1)
  {v v' : Value} {n : Nat} {xs : List Value} (hown : w.ownsRow base e 1 v n xs) {s : ByteArray} (hb : n + s.size ≤ 35184372088832) (h : (Builtin.append_ #[t, u] ty #[v, .string s]).run P w = .ok v' w') : v'.ownBlock = v.ownBlock ∨ v'.ownBlock = some w.heap.size := by
 obtain ⟨i, hi, hz, hsize, hby⟩ := info_parts he
 have hxl : xs.length = n := by simpa using hown.1
 rcases hown.2 with ⟨rfl, rfl⟩ | ⟨g, cap, cur, rfl, hbg, hg, hnc, hcm, hcs, htake⟩
 ·by_cases hm : s.size = 0
  ·have hf := Lib.run_firstCells_string (P := P) w 1 s
   rw [hm] at hf
   simp [Builtin.append_, run_underlying ht, run_underlying hu, sizeOf, typeInfo, hi, hsize, Builtin.lenOf, hm, hf] at h
   exact .inl (by rw [h.1])
  ·have hr := run_append_nil_string (P := P) w t u ty e i (.int .u8 0) ht hu hi hz s (by omega) (by omega) (by rw [hby]; omega)
   rw [hr] at h
   injection h with h1 h2
   exact .inr (by rw [← h1]; rfl)
 ·by_cases hroom : n + s.size ≤ cap
  ·have hr := Lib.run_append_room_string (P := P) w t u ty e i ht hu hi hsize g n cap cur hg s hroom (by omega)
   rw [hr] at h
   injection h with h1 h2
   exact .inl (by rw [← h1]; rfl)
  ·have holds : ∀ j u, xs[j]? = some u → w.cell? ((⟨g, 0, none⟩ : Addr).add j) = some u := hown.cells (g := g) rfl
   have hr := Lib.run_append_grow_string (P := P) w t u ty e i (.int .u8 0) ht hu hi hz ⟨g, 0, none⟩ n cap xs (by rw [hsize]; simpa using hxl) holds s (by omega) (by omega) (by rw [hby]; exact growslice_fits (by omega) (by omega))
   rw [hr] at h
   injection h with h1 h2
   exact .inr (by rw [← h1]; rfl)
theorem wpList_append_strU {P : Program} (w : World) {ops : Array Oper} {rest : List Oper} {o : Oper} {a : Act} {Q : Exit → Act → World → Prop} {sl x : Operand} {t u e : TypeId}
  (ht : P.underlying t = some (.slice e)) (hu : P.underlying u = some .string) (he : Elem P e (.int .u8 0) 1 1)
  (hgd : o.guard = none) (ho : o.op = .call { callee := .builtin .append, args := #[sl, x], argTypes := #[t, u] })
  {base : Nat} {A0 : Option Addr} {n c0 : Nat} {l : List UInt8} (hs : a.eval sl = .slice A0 n c0) (hown : w.ownsRow base e 1 (.slice A0 n c0) n (bs l)) {s : ByteArray} (hx : a.eval x = .string s)
  (hbytes : n + s.size ≤ 35184372088832) (hbase : base ≤ w.heap.size) {k : Nat} {m : List UInt8} (hk : n + s.size = k) (hm : l ++ s.data.toList = m)
  (h : ∀ A' c' w', w'.ownsRow base e 1 (.slice A' k c') k (bs m) → w.grownBy w' (A0.map (·.block)) → (A'.map (·.block) = A0.map (·.block) ∨ A'.map (·.block) = some w.heap.size) → wpList P ops Q rest (a.put o.dst (.slice A' k c')) w') : wpList P ops Q (o :: rest) a w := by
 obtain ⟨i, hi, hz, hsize, hby⟩ := info_parts he
 refine wpList_plain hgd fun K hK => ?_
 obtain ⟨v', w', hr, h1, h2, _⟩ := Lib.run_append_own_string (P := P) w base t u o.type e i ht hu hi hz hsize hby _ n (bs l) hown s (by unfold maxLen; omega) (by omega) hbase
 have h4 := append_str_at ht hu he hown hbytes hr
 obtain ⟨A', c', rfl, _⟩ := own_form h1
 subst hk hm
 have e1 : ∀ (B : Option Addr) (p q : Nat), (Value.slice B p q).ownBlock = B.map (·.block) := fun B p q => by cases B <;> rfl
 rw [e1] at h2 h4
 rw [e1] at h4
 have e2 : bs (l ++ s.data.toList) = bs l ++ Lib.strCells s := by rw [bs_append]; rfl
 unfold Oper.wp execOp
 simp only [ho, resolve, invoke, builtin, Sem.run_bind, Sem.run_pure, Result.andThen_ok, List.map_toArray, List.map_cons, List.map_nil, hs, hx, hr]
 refine hK _ _ (h A' c' w' ?_ h2 h4)
 rw [e2]
 exact h1
structure WrU (W : World) (U : Nat → Prop) (p : Nat) (l : List UInt8) : Prop where
 ex : ∃ A n c, W.heap[p]? = some (.cells #[.slice A n c] 275 (0, 0)) ∧ W.ownsRow 0 5 1 (.slice A n c) n (bs l) ∧ ∀ b, A.map (·.block) = some b → U b
 up : U p
 lt : ∀ b, U b → b < W.heap.size
def WuPost (w : World) (U : Nat → Prop) (p : Nat) (l : List UInt8) (e : Ending) (w' : World) : Prop := e = .returned (.pointer (some ⟨p, 0, none⟩)) ∧ (∃ U', WrU w' U' p l ∧ ∀ b, U' b → U b ∨ w.heap.size ≤ b) ∧ Kept U w w'
section
variable {W W' w w' : World} {U U' : Nat → Prop} {p : Nat} {l : List UInt8}
theorem WrU.keep (h : WrU W U p l) (hk : ∀ b, U b → W'.heap[b]? = W.heap[b]?) (hz : W.heap.size ≤ W'.heap.size) : WrU W' U p l := by
 obtain ⟨A, n, c, h1, h2, h3⟩ := h.ex
 refine ⟨⟨A, n, c, (hk p h.up).trans h1, ?_, h3⟩, h.up, fun b hb => Nat.lt_of_lt_of_le (h.lt b hb) hz⟩
 refine ⟨h2.1, ?_⟩
 rcases h2.2 with h5 | ⟨g, cap, cur, h5, h6, h7, h8⟩
 ·exact .inl h5
 ·exact .inr ⟨g, cap, cur, h5, h6, (hk g (h3 g (by injection h5 with h5; rw [h5]; rfl))).trans h7, h8⟩
theorem WrU.below (h : WrU W U p l) (hb : Below W.heap.size W W') : WrU W' U p l := h.keep (fun b hu => hb.block b (h.lt b hu)) hb.size
theorem WrU.store {A A' : Option Addr} {n c k c' : Nat} (h1 : W.heap[p]? = some (.cells #[.slice A n c] 275 (0, 0))) (ho : W'.ownsRow 0 5 1 (.slice A' k c') k (bs l)) (hg : W'.heap[p]? = W.heap[p]?)
  (hU : ∀ b, A'.map (·.block) = some b → U b) (hp : U p) (hlt : ∀ b, U b → b < W'.heap.size) : WrU (W'.setCell ⟨p, 0, none⟩ (.slice A' k c')) U p l := by
 have hp1 := hg.trans h1
 have hne := own_ne ho hp1 (by decide)
 refine ⟨⟨A', k, c', by simp [World.setCell, Array.getElem?_modify, hp1], ?_, hU⟩, hp, fun b hb => by simpa [World.setCell] using hlt b hb⟩
 refine ho.kept (row := some p) ⟨rfl, rfl, rfl, by simp [World.setCell], fun i _ hi => Below.heap_setCell _ _ _ i (fun e => hi (by rw [e]))⟩ ?_
 cases A' with
 | none => exact .inl rfl
 | some a => exact .inr hne
theorem Kept.less (h : Kept (fun b => U b ∨ W.heap.size ≤ b) W W') : Kept U W W' := ⟨h.os, h.tape, h.output, h.size, fun i hi hu => h.block i hi fun h2 => h2.elim hu fun h3 => by omega⟩
theorem WuPost.of {e : Ending} (he : e = .returned (.pointer (some ⟨p, 0, none⟩))) (h : WrU w' (fun b => (U b ∨ w.heap.size ≤ b) ∧ b < w'.heap.size) p l) (hk : Kept (fun b => U b ∨ w.heap.size ≤ b) w w') : WuPost w U p l e w' :=
 ⟨he, ⟨_, h, fun b hb => hb.1⟩, hk.less⟩
end
set_option maxHeartbeats 1600000 in
theorem lay_u (U : Nat → Prop) (p : Nat) (l : List UInt8) (c d : UInt8) (s : ByteArray) (w : World) (h : WrU w U p l) (hn : l.length + s.size ≤ 1099511627776) :
  Calls Tryz.prog 188 #[.pointer (some ⟨p, 0, none⟩), .int .u8 (c.toNat : Int), .string s, .int .u8 (d.toNat : Int)] w (WuPost w U p (l ++ [c] ++ s.data.toList ++ [d])) := by
 obtain ⟨M, hM⟩ : ∃ M, l ++ [c] ++ s.data.toList ++ [d] = M := ⟨_, rfl⟩
 rw [hM]
 have HM := Lib.hid hM
 clear hM
 obtain ⟨A, n, cp, h1, h3, hAU⟩ := h.ex
 have hup := h.up
 have hpl := (Array.getElem?_eq_some_iff.1 h1).1
 have hln : l.length = n := by have := h3.1; rw [bs_length] at this; omega
 have hne := own_ne h3 h1 (by decide)
 have c0 : w.cell? ⟨p, 0, none⟩ = some (.slice A n cp) := cell_of_row w p 0 _ _ (0, 0) h1
 have f0 : w.frozen? ⟨p, 0, none⟩ = false := by simp [World.frozen?, h1]
 have H1 := Lib.hid h1
 have H3 := Lib.hid h3
 have Hne := Lib.hid hne
 have HAU := Lib.hid (And.intro hAU (And.intro hup hpl))
 have Hln := Lib.hid hln
 have hn' : n + s.size ≤ 1099511627776 := by omega
 clear h h1 h3 hne hln hn hAU hup
 go_enter Tryz.func188, Tryz.ntmps188
 go_wp2_with (first
  | (at_builtin; refine wpList_append_any (s := .tmp 15) (news := bs [c]) _ Tryz.underlying26 u8_elem rfl (by omega) rfl rfl rfl (own_below H3.out ((Below.refl _ _).alloc (Nat.le_refl _) _)) rfl (show Rd (w.alloc (.cells #[.int .u8 (c.toNat : Int)] 5)) T 1 (some ⟨w.heap.size, 0, none⟩) 1 (bs [c]) from (Rd.lit rfl).any) (bs_one _) (by omega) (Nat.zero_le _) rfl (bs_append l [c]).symm ?_; intro A1 c1 w1 hown1 hg1 hat1; have K1 := Lib.hid (keepP H1.out hg1 Hne.out); have At1 := Lib.hid hat1; clear hat1)
  | (at_builtin; refine wpList_append_strU (sl := .tmp 18) _ Tryz.underlying26 Tryz.underlying9 u8_elem rfl rfl rfl hown1 rfl (by omega) (Nat.zero_le _) rfl rfl ?_; intro A2 c2 w2 hown2 hg2 hat2; have K2 := Lib.hid (keepQ K1.out hg2 (own_ne hown1 K1.out (by decide))); have At2 := Lib.hid hat2; clear hat2)
  | (at_builtin; refine wpList_append_any (s := .tmp 20) (news := bs [d]) _ Tryz.underlying26 u8_elem rfl (by omega) rfl rfl rfl (own_below hown2 ((Below.refl _ _).alloc (Nat.le_refl _) _)) rfl (show Rd (w2.alloc (.cells #[.int .u8 (d.toNat : Int)] 5)) T 1 (some ⟨w2.heap.size, 0, none⟩) 1 (bs [d]) from (Rd.lit rfl).any) (bs_one _) (by omega) (Nat.zero_le _) rfl (bs_append _ [d]).symm ?_; intro A3 c3 w3 hown3 hg3 hat3; have K3 := Lib.hid (keepP K2.out hg3 (own_ne hown2 K2.out (by decide))); obtain ⟨q0, q1⟩ := box_cell K3.out; have At3 := Lib.hid hat3; clear hat3))
 go_ret
 have z1 : w.heap.size + 1 ≤ w1.heap.size := by have := hg1.size; simpa using this
 have z2 := hg2.size
 have z3 : w2.heap.size + 1 ≤ w3.heap.size := by have := hg3.size; simpa using this
 have u1 : ∀ b, A1.map (·.block) = some b → U b ∨ w.heap.size ≤ b := fun b hb => by
  rcases At1.out with h | h <;> rw [h] at hb
  ·exact .inl (HAU.out.1 b hb)
  ·injection hb with hb; right; simp at hb; omega
 have u2 : ∀ b, A2.map (·.block) = some b → U b ∨ w.heap.size ≤ b := fun b hb => by
  rcases At2.out with h | h <;> rw [h] at hb
  ·exact u1 b hb
  ·injection hb with hb; right; omega
 have u3 : ∀ b, A3.map (·.block) = some b → U b ∨ w.heap.size ≤ b := fun b hb => by
  rcases At3.out with h | h <;> rw [h] at hb
  ·exact u2 b hb
  ·injection hb with hb; right; simp at hb; omega
 have hpw := HAU.out.2.2
 rw [HM.out] at hown3
 refine WuPost.of rfl (WrU.store H1.out hown3 (K3.out.trans H1.out.symm) (fun b hb => ⟨u3 b hb, ?_⟩) ⟨.inl HAU.out.2.1, ?_⟩ fun b hb => ?_) ?_
 ·have := (own_lt hown3 b hb).2
  simpa [World.setCell] using this
 ·simp [World.setCell]; omega
 ·simpa [World.setCell] using hb.2
 ·have b1 := ((Kept.refl (fun b => U b ∨ w.heap.size ≤ b) w).alloc (.cells #[.int .u8 (c.toNat : Int)] 5)).grown hg1 (fun q hq => .inl (HAU.out.1 q hq))
  have b2 := b1.grown hg2 u1
  have b3 := (b2.alloc (.cells #[.int .u8 (d.toNat : Int)] 5)).grown hg3 u2
  exact b3.set (p := ⟨p, 0, none⟩) (.inl HAU.out.2.1) _
theorem new_u (w : World) : Calls Tryz.prog 137 #[] w (fun e w' => e = .returned (.pointer (some ⟨w.heap.size, 0, none⟩)) ∧ WrU w' (fun b => b = w.heap.size) w.heap.size [] ∧ Below w.heap.size w w') := by
 go_enter Tryz.func137, Tryz.ntmps137
 go_wp2_with fail
 go_ret
 exact ⟨rfl, ⟨⟨none, 0, 0, heap_alloc_new _ _, own_nil _ _ _ _ _ rfl, by simp⟩, rfl, by rintro b rfl; simp⟩, (Below.refl _ _).alloc (Nat.le_refl _) _⟩
set_option maxHeartbeats 1600000 in
theorem bytes_u (U : Nat → Prop) (p : Nat) (l d : List UInt8) (A : Option Addr) (n c : Nat) (w : World) (h : WrU w U p l) (hn : l.length ≤ 274877906944) (htab : TabW w) (hr : Rd w (fun b => ¬ U b) 1 A n (bs d)) (hnn : n ≤ 274877906944) :
  Calls Tryz.prog 183 #[.pointer (some ⟨p, 0, none⟩), .slice A n c] w (WuPost w U p (l ++ bytesL d)) := by
 have hdn : d.length = n := hr.blen
 have hd := dig_size n (by omega)
 have hf := itoa_any n (by omega) w htab
 have hl : ∀ w1, Below w.heap.size w w1 → Calls Tryz.prog 188 #[.pointer (some ⟨p, 0, none⟩), .int .u8 98, .string (dig n), .int .u8 58] w1 (WuPost w1 U p (l ++ 98 :: (Lib.decDigits n ++ [58]))) := fun w1 hb => by
  have := lay_u U p l 98 58 (dig n) w1 (h.below hb) (by omega)
  have e : l ++ [98] ++ (dig n).data.toList ++ [58] = l ++ 98 :: (Lib.decDigits n ++ [58]) := by simp [dig]
  rw [e] at this
  exact this
 have hlen : (l ++ 98 :: (Lib.decDigits n ++ [58])).length ≤ 274877906944 + 22 := by
  have : (Lib.decDigits n).length ≤ 20 := hd
  simp
  omega
 have hfin : l ++ 98 :: (Lib.decDigits n ++ [58]) ++ d = l ++ bytesL d := by simp [bytesL, hdn]
 generalize l ++ 98 :: (Lib.decDigits n ++ [58]) = m at hl hlen hfin
 have hr' := hr.lt (by omega)
 have Hf := Lib.hid hf
 have Hl := Lib.hid hl
 have Hr := Lib.hid hr'
 have Hfin := Lib.hid hfin
 clear hf hl h htab hr hr' hfin hdn
 go_enter Tryz.func183, Tryz.ntmps183
 go_wp2_with fail
 refine Hf.out.mono ?_
 rintro e w1 ⟨rfl, hb⟩
 go_wp2_with fail
 refine (Hl.out _ hb).mono ?_
 rintro e w2 ⟨rfl, ⟨U2, h2, hu2⟩, hk2⟩
 obtain ⟨A2, n2, c2, k1, k3, kU⟩ := h2.ex
 obtain ⟨q0, q1⟩ := box_cell k1
 have hz1 := hb.size
 have r2 : Rd w2 (fun b => ¬ U b ∧ b < w.heap.size) 1 A n (bs d) := hk2.rd (Hr.out.below hb) fun b hb' => hb'.1
 have hne := own_ne k3 k1 (by decide)
 have hm2 : m.length = n2 := by have := k3.1; rw [bs_length] at this; omega
 have K1 := Lib.hid k1
 have K3 := Lib.hid k3
 have R2 := Lib.hid r2
 have Hne := Lib.hid hne
 have KK := Lib.hid (And.intro hk2 (And.intro kU (And.intro hu2 (And.intro h2.up h2.lt))))
 have hn2 : n2 ≤ 274877906944 + 22 := by omega
 clear h2 k1 k3 r2 hne hm2 hlen hk2 kU hu2
 go_wp2_with (at_builtin; refine wpList_append_any (s := .tmp 15) (news := bs d) _ Tryz.underlying26 u8_elem rfl (by omega) rfl rfl rfl K3.out rfl R2.out (bs_one _) (by omega) (Nat.zero_le _) rfl (bs_append m d).symm ?_; intro A3 c3 w3 hown3 hg3 hat3; have K4 := Lib.hid (keepQ K1.out hg3 Hne.out); obtain ⟨q2, q3⟩ := box_cell K4.out; have At3 := Lib.hid hat3; clear hat3)
 go_ret
 rw [Hfin.out] at hown3
 obtain ⟨hk2, kU, hu2, h2u, h2l⟩ := KK.out
 have hz2 := hk2.size
 have hz3 := hg3.size
 have hpl := h2l p h2u
 have u3 : ∀ b, A3.map (·.block) = some b → U b ∨ w.heap.size ≤ b := fun b hb' => by
  rcases At3.out with h | h <;> rw [h] at hb'
  ·exact (hu2 b (kU b hb')).elim .inl fun h5 => .inr (by omega)
  ·injection hb' with hb'; right; omega
 refine WuPost.of rfl (WrU.store K1.out hown3 (K4.out.trans K1.out.symm) (fun b hb' => ⟨u3 b hb', ?_⟩) ⟨(hu2 p h2u).elim .inl fun h5 => .inr (by omega), ?_⟩ fun b hb' => ?_) ?_
 ·have := (own_lt hown3 b hb').2
  simpa [World.setCell] using this
 ·simp [World.setCell]; omega
 ·simpa [World.setCell] using hb'.2
 ·have b1 : Kept (fun b => U b ∨ w.heap.size ≤ b) w w2 := (Kept.of_new hb).trans hk2 fun b _ h => .inl h
  have b2 := b1.grown hg3 (fun q hq => (hu2 q (kU q hq)).elim .inl fun h5 => .inr (by omega))
  exact b2.set (p := ⟨p, 0, none⟩) ((hu2 p h2u).elim .inl fun h5 => .inr (by show w.heap.size ≤ p; omega)) _
theorem WrU.wr {W : World} {U : Nat → Prop} {p : Nat} {l : List UInt8} (h : WrU W U p l) : Wr W 0 p l := by
 obtain ⟨A, n, c, h1, h2, _⟩ := h.ex
 exact ⟨A, n, c, h1, Nat.zero_le _, h2⟩
end Go.Proofs.YtmhaahcbmdhinaaGreatDoor
namespace Go.Proofs.YtmhaahcbmdhinaaGreatDoor
open Go.RowKit
set_option linter.unusedVariables false
set_option linter.unusedSimpArgs false
def EncI (W0 W : World) (p : Nat) (L : List UInt8) : Prop := (∃ U, WrU W U p L ∧ ∀ b, U b → W0.heap.size ≤ b) ∧ Below W0.heap.size W0 W
def EncP (W0 : World) (p : Nat) (L : List UInt8) (e : Ending) (w' : World) : Prop := e = .returned (.pointer (some ⟨p, 0, none⟩)) ∧ EncI W0 w' p L
section
variable {W0 W W' : World} {p : Nat} {L : List UInt8}
theorem EncI.be (h : EncI W0 W p L) : Below W0.heap.size W0 W := h.2
theorem EncI.next {U : Nat → Prop} {L' : List UInt8} {e : Ending} (hu : ∀ b, U b → W0.heap.size ≤ b) (hb : Below W0.heap.size W0 W) (h : WuPost W U p L' e W') : EncP W0 p L' e W' := by
 obtain ⟨h1, ⟨U', h2, h3⟩, h4⟩ := h
 exact ⟨h1, ⟨U', h2, fun b h5 => (h3 b h5).elim (hu b) fun h6 => Nat.le_trans hb.size h6⟩, hb.trans (h4.below hu hb.size)⟩
theorem new_i (W0 : World) : Calls Tryz.prog 137 #[] W0 (EncP W0 W0.heap.size []) := (new_u W0).mono (by
 rintro e w' ⟨rfl, h1, h2⟩
 exact ⟨rfl, ⟨_, h1, fun b hb => by rw [hb]; exact Nat.le_refl _⟩, h2⟩)
theorem bytes_o (A : Option Addr) (n c : Nat) (d : List UInt8) (h : EncI W0 W p L) (hn : L.length ≤ 200000000000) (htab : TabW W0) (hr : Rd W (· < W0.heap.size) 1 A n (bs d)) (hnn : n ≤ 200000000000) :
  Calls Tryz.prog 183 #[.pointer (some ⟨p, 0, none⟩), .slice A n c] W (EncP W0 p (L ++ bytesL d)) := by
 obtain ⟨⟨U, h1, h2⟩, h3⟩ := h
 exact (bytes_u U p L d A n c W h1 (by omega) (htab.below h3 (Nat.le_refl _)) (hr.mono fun b hb hu => by have := h2 b hu; omega) (by omega)).mono fun e w' h => EncI.next h2 h3 h
theorem bytes_i (A : Option Addr) (n c : Nat) (d : List UInt8) (h : EncI W0 W p L) (hb : Below W.heap.size W W') (hn : L.length ≤ 200000000000) (htab : TabW W0) (hr : Rd W' (W.heap.size ≤ ·) 1 A n (bs d)) (hnn : n ≤ 200000000000) :
  Calls Tryz.prog 183 #[.pointer (some ⟨p, 0, none⟩), .slice A n c] W' (EncP W0 p (L ++ bytesL d)) := by
 obtain ⟨⟨U, h1, h2⟩, h3⟩ := h
 have h4 := h3.trans (hb.mono h3.size)
 exact (bytes_u U p L d A n c W' (h1.below hb) (by omega) (htab.below h4 (Nat.le_refl _)) (hr.mono fun b hb hu => by have := h1.lt b hu; omega) (by omega)).mono fun e w' h => EncI.next h2 h4 h
theorem done_i (h : EncI W0 W p L) (hn : L.length ≤ 200000000000) :
  Calls Tryz.prog 139 #[.pointer (some ⟨p, 0, none⟩)] W (LayR W0 L) := by
 obtain ⟨⟨U, h1, h2⟩, h3⟩ := h
 exact (done_any 0 p L W h1.wr (by omega)).mono (by
  rintro e w' ⟨A, c, rfl, h4, h5⟩
  exact LayR.up h3 ⟨A, _, c, rfl, h4, h5⟩)
end
end Go.Proofs.YtmhaahcbmdhinaaGreatDoor
