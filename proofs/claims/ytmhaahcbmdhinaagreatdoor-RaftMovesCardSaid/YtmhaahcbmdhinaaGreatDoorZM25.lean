/- Walks: the document's May of a message, and 'in'
   Plain member: what its numbers keep within, through the messages that it hears
   Walk: (*raft.Core).Step, over the contracts of what it calls
   Walks: (*raft.Core).led, against
   Walk: (*raft.Core).add
   Walk: (*raft.Core).Step, over the contracts of what it calls; for some index where entries do not fit -/
import Derived.Test.YtmhaahcbmdhinaaGreatDoorZM24
import Derived.Test.YtmhaahcbmdhinaaGreatDoorZM19
import Derived.Deep.CutBlock
import Derived.Test.YtmhaahcbmdhinaaGreatDoorZM22
namespace Go.Proofs.YtmhaahcbmdhinaaGreatDoor
open Go.RowKit
set_option maxRecDepth 100000
set_option linter.unusedVariables false
set_option linter.unusedSimpArgs false
theorem may_flat (m : Ms) : m.may = (within1 1 6 m.kind && (within1 1 64 m.fr && (within1 1 64 m.dst && (!(m.fr == m.dst) && (within1 1 1099511627776 m.term && (within1 0 1099511627776 m.ix && (within1 0 1099511627776 m.lt && (within1 0 1099511627776 m.cm && (within1 0 1099511627776 m.rd && (within1 0 1099511627776 m.off && (decide (m.data.length ≤ 4096) && (decide (m.es.length ≤ 64) && evenL m.es)))))))))))) := by
 rw [may_of]
 unfold winB
 simp only [List.all_cons, List.all_nil, Bool.and_true, Bool.and_assoc]
end Go.Proofs.YtmhaahcbmdhinaaGreatDoor
namespace Go.Proofs.YtmhaahcbmdhinaaGreatDoor
set_option linter.unusedVariables false
set_option linter.unusedSimpArgs false
theorem Ms.may_in {x : Ms} (h : x.may = true) : (1 ≤ x.kind ∧ x.kind ≤ 6) ∧ (1 ≤ x.fr ∧ x.fr ≤ 64) ∧ (1 ≤ x.dst ∧ x.dst ≤ 64) ∧ (1 ≤ x.term ∧ x.term ≤ 1099511627776) ∧ (0 ≤ x.ix ∧ x.ix ≤ 1099511627776) ∧ (0 ≤ x.lt ∧ x.lt ≤ 1099511627776) ∧ (0 ≤ x.cm ∧ x.cm ≤ 1099511627776) ∧ (0 ≤ x.rd ∧ x.rd ≤ 1099511627776) ∧ (0 ≤ x.off ∧ x.off ≤ 1099511627776) ∧ x.data.length ≤ 4096 ∧ x.es.length ≤ 64 := by
 rw [may_flat] at h
 unfold within1 at h
 simp only [Bool.and_eq_true, decide_eq_true_eq] at h
 obtain ⟨h1, h2, h3, _, h5, h6, h7, h8, h9, h10, h11, h12, _⟩ := h
 exact ⟨h1, h2, h3, h5, h6, h7, h8, h9, h10, h11, h12⟩
section
variable {C : Cr} {k : Nat}
theorem Cr.Ok.newer (h : C.Ok k) {x : Ms} (hx : x.may = true) : (C.newer x).Ok k := by
 have hb := (Ms.may_in hx).2.2.2.1
 unfold Cr.newer
 split
 ·rename_i hlt
  have hm := h.may
  refine Cr.Ok.follow (C := { C with s := { C.s with tm := x.term, vt := 0 } }) ⟨?_, h.sn, h.id, h.span, h.role, h.leader, h.commit, h.round, h.gone, h.wait, h.votes, h.peers, h.key, h.hv, h.big⟩ (by omega)
  unfold St.may at hm ⊢
  simp only [Bool.and_eq_true, decide_eq_true_eq] at hm ⊢
  obtain ⟨⟨⟨⟨⟨⟨h1, h2⟩, h3⟩, h4⟩, h5⟩, h6⟩, h7⟩ := hm
  exact ⟨⟨⟨⟨⟨⟨h1, h2⟩, h3⟩, by omega⟩, by omega⟩, by omega⟩, by omega⟩
 ·exact h
theorem Cr.Ok.votedFor (h : C.Ok k) {v : Int} (hv : 1 ≤ v ∧ v ≤ 64) : ({ C with s := { C.s with vt := v } } : Cr).Ok k := by
 have hm := h.may
 refine ⟨?_, h.sn, h.id, h.span, h.role, h.leader, h.commit, h.round, h.gone, h.wait, h.votes, h.peers, h.key, h.hv, h.big⟩
 unfold St.may at hm ⊢
 simp only [Bool.and_eq_true, decide_eq_true_eq] at hm ⊢
 obtain ⟨⟨⟨⟨⟨⟨h1, h2⟩, h3⟩, h4⟩, h5⟩, h6⟩, h7⟩ := hm
 exact ⟨⟨⟨⟨⟨⟨h1, h2⟩, h3⟩, h4⟩, h5⟩, by omega⟩, by omega⟩
theorem Cr.Ok.vote (h : C.Ok k) {x : Ms} (hx : x.may = true) (draw : Int) : (C.vote x draw).1.Ok k := by
 have hb := (Ms.may_in hx).2.1
 unfold Cr.vote
 dsimp only
 split
 ·exact (h.votedFor hb).draws draw
 ·exact h
end
end Go.Proofs.YtmhaahcbmdhinaaGreatDoor
namespace Go.Proofs.YtmhaahcbmdhinaaGreatDoor
open Go.RowKit
set_option maxRecDepth 100000
set_option linter.unusedVariables false
set_option linter.unusedSimpArgs false
theorem ld_whole {P : Program} {op : Oper} {a : Act} {w : World} (ty : TypeId) (x : Operand) (ho : op.op = .load ty x) (b o : Nat) (hx : a.eval x = .pointer (some ⟨b, o, none⟩)) (cs : List Value) (d : TypeDesc) (hc : w.rangeAt b o cs)
  (hu : P.underlying ty = some d) (hd : d.isRow = true) (hi : (P.info? ty).map (·.size) = some cs.length) : (execOp a.eval op).run P w = .ok (.value (.agg cs.toArray)) w := by
 unfold execOp
 simp only [ho, hx, Instr.loadAt, Instr.sureAddr, Sem.run_bind, Sem.run_pure, Result.andThen_ok, run_loadVar_mid w b o ty cs d hc hu hd hi]
def Cr.newerOf (C : Cr) (tm : Int) : Cr := ({ C with s := { C.s with tm := tm, vt := 0 } } : Cr).follow 0
theorem newer_eq (C : Cr) (x : Ms) : C.newer x = if decide (C.s.tm < x.term) = true then C.newerOf x.term else C := by
 unfold Cr.newer
 by_cases h : C.s.tm < x.term
 ·rw [if_pos h, if_pos (decide_eq_true h)]; rfl
 ·rw [if_neg h, if_neg (by rw [decide_eq_false h]; decide)]
def Cr.deaf (C : Cr) (x : Ms) : Bool := !x.may || (!(x.dst == C.id) || x.ahead)
theorem step_eq (C : Cr) (x : Ms) (draw k : Int) : C.step x draw k = if C.deaf x = true then (C, []) else
  if x.kind = 1 then (C.newer x).vote x draw else if x.kind = 2 then (C.newer x).voted x else if x.kind = 3 then (C.newer x).add x draw k else if x.kind = 5 then (C.newer x).take x draw else
  if (C.newer x).role ≠ 2 ∨ x.term ≠ (C.newer x).s.tm then (C.newer x, []) else (C.newer x).told x := by
 unfold Cr.step Cr.deaf
 have e : (x.may = false ∨ x.dst ≠ C.id ∨ x.ahead = true) ↔ (!x.may || (!(x.dst == C.id) || x.ahead)) = true := by
  rw [Bool.or_eq_true, Bool.or_eq_true]
  simp
 by_cases h : x.may = false ∨ x.dst ≠ C.id ∨ x.ahead = true
 ·rw [if_pos h, if_pos (e.1 h)]
 ·rw [if_neg h, if_neg (fun h2 => h (e.2 h2))]
theorem deaf_no {a b c : Bool} (h : false = (!a || (!b || c))) : a = true ∧ b = true ∧ c = false := by
 revert h
 cases a <;> cases b <;> cases c <;> decide
def HeardBy (fb p : Nat) (f : FuncId) (args : Array Value) (C : Cr) (x : Mr) (r : Cr × List Ms) : Prop :=
 ∀ (W : World) (V U : Nat → Prop) (m : Mb), CX fb W p V U C m → Env fb W → x.At W (fun b => ¬ U b) → Calls Tryz.prog f args W (OutPost fb W p V U r)
set_option maxHeartbeats 1600000 in
theorem led_any {fb p : Nat} {w : World} {V U : Nat → Prop} {C : Cr} {m : Mb} {k : Nat} (x : Mr) (draw : Int) (h : CX fb w p V U C m) (ho : C.Ok k) :
  Calls Tryz.prog 125 #[.pointer (some ⟨p, 0, none⟩), x.val, .int .i64 draw] w (fun e w' => e = .returned (.tuple #[]) ∧ CTo fb w p V U (C.led x.ms draw) w' V U m) := by
 obtain ⟨W0, hW0⟩ : ∃ W0, W0 = w.alloc (.cells x.cells 78) := ⟨_, rfl⟩
 have b0 : Bx W0 w.heap.size x.cells := by subst hW0; exact Bx.new _ _ _ rfl
 have hbe : Below w.heap.size w W0 := by subst hW0; exact (Below.refl _ _).alloc (Nat.le_refl _) _
 have hfo := follow_any x.fr (h.below hbe)
 have d1 : W0.cell? ⟨w.heap.size, 1, none⟩ = some (.int .i64 x.fr) := b0.c 1
 have HW := Lib.hid hW0
 have H := Lib.hid (And.intro hbe ho.span)
 have Hfo := Lib.hid hfo
 clear hW0 b0 hbe hfo h ho
 unfold Mr.val
 go_enter Tryz.func125, Tryz.ntmps125
 go_upto_region 1 with (fail)
 have HW' := HW.out
 unfold Mr.cells at HW'
 rw [← HW']
 clear HW'
 go_wp2_with fail
 refine Hfo.out.mono ?_
 rintro e w1 ⟨rfl, t1⟩
 have hdr := draws_any p _ C.span draw w1 t1.cx.bx rfl (by show 14 < 19; omega) H.out.2.1 H.out.2.2
 have T1 := Lib.hid t1
 have Hdr := Lib.hid hdr
 clear t1 hdr d1
 go_wp2_with fail
 refine Hdr.out.mono ?_
 rintro e w2 ⟨rfl, x2, g2⟩
 have hc2 : CX fb w2 p V U (C.led x.ms draw) m := T1.out.cx.to x2 g2 rfl rfl rfl rfl
 have hto : CTo fb w p V U (C.led x.ms draw) w2 V U m := CTo.up H.out.1 (T1.out.trans ⟨hc2, fun _ h => .inl h, fun _ h => h, fun _ h => .inl h, (Kept.refl V w1).grown g2 fun b e => by injection e with e; subst e; exact T1.out.cx.vp⟩)
 have T2 := Lib.hid hto
 clear x2 g2 hc2 hto
 go_wp2_with fail
 refine bodyPost_end (results_none rfl _ _ _) (by rfl) ?_
 exact ⟨rfl, T2.out⟩
theorem Cr.Ok.led {C : Cr} {k : Nat} (h : C.Ok k) {x : Ms} (hx : x.may = true) (draw : Int) : (C.led x draw).Ok k := (h.follow (by have := (Ms.may_in hx).2.1; omega)).draws draw
def agE (C : Cr) (e : En) : Bool := decide (C.s.b < e.a) && decide (e.a ≤ C.commit) && !decide (C.termOf e.a = (0, e.b))
def agL (C : Cr) (l : List Er) : Bool := l.any fun y => agE C (en y)
theorem against_of (C : Cr) (x : Mr) : C.against x.ms = agL C x.L := by
 unfold Cr.against agL agE
 show ((x.L.map en).any _) = _
 rw [List.any_map]
 rfl
set_option maxHeartbeats 6400000 in
theorem against_any {fb p : Nat} {w : World} {V U : Nat → Prop} {C : Cr} {m : Mb} {k : Nat} (x : Mr) (h : CX fb w p V U C m) (ho : C.Ok k) {ok : Nat → Prop} (hx : x.At w ok) (hn : x.ne ≤ 1000000) :
  Calls Tryz.prog 126 #[.pointer (some ⟨p, 0, none⟩), x.val] w (BoolPost w (C.against x.ms)) := by
 obtain ⟨W0, hW0⟩ : ∃ W0, W0 = w.alloc (.cells x.cells 78) := ⟨_, rfl⟩
 have b0 : Bx W0 w.heap.size x.cells := by subst hW0; exact Bx.new _ _ _ rfl
 have hbe : Below w.heap.size w W0 := by subst hW0; exact (Below.refl _ _).alloc (Nat.le_refl _) _
 have hl := hx.e.flen ecell_len (by omega)
 have hr := (hx.below hbe).e
 have hf := h.fit ho
 have hte := fun ix W (hb : Below w.heap.size w W) => h.term hf ix W hb
 obtain ⟨k1, k2, k3, k4, k5, k6, k7⟩ := h.s_eq
 have hP : ∀ W, Below w.heap.size w W → W.cell? ⟨p, 2, none⟩ = some (.int .i64 C.s.b) ∧ W.cell? ⟨p, 3, none⟩ = some (.int .i64 m.s.t) ∧ W.cell? ⟨p, 4, none⟩ = some (.slice m.s.A m.s.n m.s.c) ∧ W.cell? ⟨p, 9, none⟩ = some (.int .i64 C.commit) := fun W hb => by
  have hxx := (h.below hb).bx
  exact ⟨by rw [← k3]; exact hxx.c 2, hxx.c 3, hxx.c 4, hxx.c 9⟩
 rw [k3] at hte
 rw [against_of]
 have HW := Lib.hid hW0
 have B := Lib.hid (And.intro b0 (And.intro hbe hl))
 have HP := Lib.hid hP
 have Hte := Lib.hid hte
 obtain ⟨A, hA⟩ : ∃ A, A = x.E := ⟨_, rfl⟩
 obtain ⟨c0, c1, c2, c3, c4, c5, c6, c7, c8, c9, c10, c11⟩ := Mr.c12 b0
 rw [← hA] at hr c11
 have HA := Lib.hid hA
 clear hW0 b0 hbe hl h ho hx hA k1 k2 k3 k4 k5 k6 k7 hf hte hP c0 c1 c2 c3 c4 c5 c6 c7 c8 c9 c10
 unfold Mr.val
 go_enter Tryz.func126, Tryz.ntmps126
 go_upto_region 1 with (fail)
 have HW' := HW.out
 unfold Mr.cells at HW'
 rw [← HW']
 clear HW'
 go_wp2_with fail
 go_loopg [6, 7, 8, 12] x.ne (fun gm s6 s7 s8 s12 wr => ∃ j : Nat, gm = x.ne - j ∧ j ≤ x.ne ∧ s12 = .int .i64 j ∧ agL C (x.L.take j) = false ∧ Below W0.heap.size W0 wr)
 case atStart => exact ⟨0, by omega, by omega, rfl, rfl, Below.refl _ _⟩
 case round =>
  obtain ⟨j, hm, hj, rfl, hno, hb⟩ := hrel
  have Hm := Lib.hid hm
  have Hno := Lib.hid hno
  have Hb := Lib.hid hb
  clear hm hno c11
  by_cases hlt : j < x.ne
  ·obtain ⟨b, o, y, rfl, _, hbl, hy, d0, d1, d2, d3⟩ := er_cells (hr.below hb) hlt
   have hjI : decide ((j : Int) < (x.ne : Int)) = true := decide_eq_true (by omega)
   have hjn : (j : Int) < x.ne := by omega
   have h0j : (0 : Int) ≤ j := by omega
   have Hy := Lib.hid hy
   obtain ⟨W1, hW1⟩ : ∃ W1, W1 = wr.alloc (.cells #[.int .i64 y.a, .int .i64 y.b, .int .i64 y.c, .slice y.A y.n y.m] 62) := ⟨_, rfl⟩
   have b1 : Bx W1 wr.heap.size #[.int .i64 y.a, .int .i64 y.b, .int .i64 y.c, .slice y.A y.n y.m] := by subst hW1; exact Bx.new _ _ _ rfl
   have hb1 : Below wr.heap.size wr W1 := by subst hW1; exact (Below.refl _ _).alloc (Nat.le_refl _) _
   have HW1 := Lib.hid hW1
   have hbe1 := Hb.out.trans (hb1.mono Hb.out.size)
   have hbw1 := B.out.2.1.trans (hbe1.mono B.out.2.1.size)
   have B1 := Lib.hid (And.intro b1 (And.intro hbe1 hbw1))
   have F1 : Hid (∀ W, Below W1.heap.size W1 W → (W.cell? ⟨wr.heap.size, 0, none⟩ = some (.int .i64 y.a) ∧ W.cell? ⟨wr.heap.size, 1, none⟩ = some (.int .i64 y.b)) ∧ W.cell? ⟨p, 2, none⟩ = some (.int .i64 C.s.b) ∧ W.cell? ⟨p, 3, none⟩ = some (.int .i64 m.s.t) ∧ W.cell? ⟨p, 4, none⟩ = some (.slice m.s.A m.s.n m.s.c) ∧ W.cell? ⟨p, 9, none⟩ = some (.int .i64 C.commit)) := Lib.hid fun W hb =>
    ⟨⟨(b1.below hb).c 0, (b1.below hb).c 1⟩, HP.out W (hbw1.trans (hb.mono hbw1.size))⟩
   have Hta := Lib.hid (fun W (hb : Below W1.heap.size W1 W) => Hte.out y.a W (hbw1.trans (hb.mono hbw1.size)))
   have step : Hid (agE C (en y) = false → agL C (x.L.take (j + 1)) = false) := Lib.hid fun h => by
    rw [List.take_add_one, Hy.out]
    unfold agL at Hno ⊢
    rw [List.any_append, Hno.out]
    show (false || (agE C (en y) || false)) = false
    rw [h]; rfl
   have hit : Hid (agE C (en y) = true → agL C x.L = true) := Lib.hid fun h => by
    unfold agL
    rw [List.any_eq_true]
    exact ⟨y, List.mem_of_getElem? Hy.out, h⟩
   have hag : agE C (en y) = (decide (C.s.b < y.a) && decide (y.a ≤ C.commit) && !decide (C.termOf y.a = (0, y.b))) := rfl
   clear hy hb b1 hb1 hW1 hbe1 hbw1
   go_upto_region 4 with (fail)
   rw [← HW1.out]
   obtain ⟨⟨f0, f1⟩, f2, f3, f4, f9⟩ := F1.out W1 (Below.refl _ _)
   clear d0 d1 d2 d3
   by_cases g1 : y.a ≤ C.s.b
   ·have g1I : decide (y.a ≤ C.s.b) = true := decide_eq_true g1
    have HS := Lib.hid (step.out (by rw [hag, decide_eq_false (by omega : ¬ C.s.b < y.a)]; rfl))
    clear hag g1 step hit
    go_region
    all_goals
     go_wp2_with fail
     go_roundg (x.ne - (j + 1))
     case measure => have := Hm.out; omega
     case rel => exact ⟨j + 1, rfl, by omega, by go_num, HS.out, B1.out.2.1.drew⟩
   ·have g1I : decide (y.a ≤ C.s.b) = false := decide_eq_false g1
    by_cases g2 : C.commit < y.a
    ·have g2I : decide (C.commit < y.a) = true := decide_eq_true g2
     have HS := Lib.hid (step.out (by rw [hag, decide_eq_false (by omega : ¬ y.a ≤ C.commit), Bool.and_false]; rfl))
     clear hag g1 g2 step hit
     go_region
     all_goals
      go_wp2_with fail
      go_roundg (x.ne - (j + 1))
      case measure => have := Hm.out; omega
      case rel => exact ⟨j + 1, rfl, by omega, by go_num, HS.out, B1.out.2.1.drew⟩
    ·have g2I : decide (C.commit < y.a) = false := decide_eq_false g2
     rw [decide_eq_true (by omega : C.s.b < y.a), decide_eq_true (by omega : y.a ≤ C.commit)] at hag
     obtain ⟨r, hrr⟩ : ∃ r, C.termOf y.a = r := ⟨_, rfl⟩
     obtain ⟨r1, r2⟩ := r
     rw [hrr] at hag Hta
     have HG := Lib.hid hag
     clear hag hrr g1 g2
     go_region
     all_goals
      go_upto_region 5 with (fail)
      clear f0 f1 f2 f3 f4 f9 g1I g2I
      refine wp_region_S 12 (fun W => Below W1.heap.size W1 W) (.take 0 (.take 1 (.take 2 (.take 3 (.take 4 (.take 5 (.take 6 (.one 7 (.take 8 (.take 9 (.take 10 (.take 11 (.one 12 (.nil)))))))))))))) (by kernel_rfl) (Below.refl _ _).drew.drew (fun _ _ _ _ h => h) (fun hS => ?_)
      repeat (first
       | (refine wpS_take (v := ?_) rfl rfl (by rfl) ?_ ?_; rotate_left; (intro W hW; have hf := F1.out W hW; go_split_ands; go_simp; try with_reducible rfl); try simp only [Act.put, lyA, lyB, lyC])
       | (refine wpS_skip rfl rfl (by rfl) ?_; try simp only [Act.put, lyA, lyB, lyC]))
      refine wpS_one rfl (by rfl) (fun K hK => ?_)
      go_simp
      go_at_call 119
      refine (Hta.out _ hS).mono ?_
      rintro e w5 ⟨rfl, hb5⟩
      have hS5 : Below W1.heap.size W1 w5 := (Below.refl _ _).drew.drew.trans hb5
      clear hb5
      refine hK (fun W => Below W1.heap.size W1 W) _ _ (fun _ h => h) hS5 ?_
      clear hK K
      try simp only [Act.put, lyA, lyB, lyC]
      repeat (first
       | (refine wpS_take (v := ?_) rfl rfl (by rfl) ?_ ?_; rotate_left; (intro W hW; have hf := F1.out W hW; go_split_ands; go_simp; try with_reducible rfl); try simp only [Act.put, lyA, lyB, lyC])
       | (refine wpS_skip rfl rfl (by rfl) ?_; try simp only [Act.put, lyA, lyB, lyC]))
      refine wpS_last rfl (by rfl) (fun K hK => ?_)
      go_simp
      refine hK _ _ ?_
      clear hK K
      try simp only [Act.put, lyA, lyB, lyC]
      refine wpS_nil ?_
      have f1 := (F1.out w5 hS5).1.2
      have S5 := Lib.hid hS5
      clear hS hS5
      by_cases h0 : r1 = 0
      ·subst h0
       rw [show errC (0 : Int) = .nilIface from rfl]
       by_cases e : r2 = y.b
       ·have e1 : (r2 != y.b) = false := by rw [e]; simp
        have HS := Lib.hid (step.out (by rw [HG.out, e]; simp))
        clear e step hit
        go_wp2_with fail
        go_roundg (x.ne - (j + 1))
        case measure => have := Hm.out; omega
        case rel => exact ⟨j + 1, rfl, by omega, by go_num, HS.out, B1.out.2.1.trans (S5.out.mono B1.out.2.1.size)⟩
       ·have e1 : (r2 != y.b) = true := by simpa using e
        have HT := Lib.hid (hit.out (by rw [HG.out, decide_eq_false (fun h => e (Prod.mk.inj h).2)]; rfl))
        clear e step hit
        go_wp2_with fail
        go_ret
        exact ⟨ret_bool HT.out.symm, B1.out.2.2.trans (S5.out.mono B1.out.2.2.size)⟩
      ·rw [show errC r1 = .iface 105 (.int .i64 r1) from if_neg h0]
       have HT := Lib.hid (hit.out (by rw [HG.out, decide_eq_false (fun h => h0 (Prod.mk.inj h).1)]; rfl))
       clear h0 step hit
       go_wp2_with fail
       go_ret
       exact ⟨ret_bool HT.out.symm, B1.out.2.2.trans (S5.out.mono B1.out.2.2.size)⟩
  ·obtain rfl : j = x.ne := by omega
   have hjI : decide ((x.ne : Int) < (x.ne : Int)) = false := decide_eq_false (by omega)
   have Q := Lib.hid (show agL C x.L = false by
    have := Hno.out
    rwa [List.take_of_length_le (Nat.le_of_eq B.out.2.2)] at this)
   go_wp2_with fail
   go_ret
   exact ⟨ret_bool Q.out.symm, B.out.2.1.trans (Hb.out.mono B.out.2.1.size)⟩
def MergePostW (W : World) (b t : Int) (l : List En) (yes : Prop) (R : List En × Int) (e : Ending) (w' : World) : Prop :=
 ∃ b' t' A n c L' k o, e = .returned (.tuple #[.agg #[.int .i64 b', .int .i64 t', .slice A n c], .int .i64 k, .bool o]) ∧ Rd w' (W.heap.size ≤ ·) 4 A n (flat ecell L') ∧ DatB w' W.heap.size L' ∧ (n ≤ c ∧ c ≤ maxLen) ∧ MgCase b t l yes R b' t' (L'.map en) k o ∧ Below W.heap.size W w'
def MergeGives : Prop := ∀ (b t ix tm : Int) (A : Option Addr) (n c : Nat) (L : List Er) (M : Option Addr) (nm cm : Nat) (more : List Er) (w : World) (hr : Rd w T 4 A n (flat ecell L)) (hd : Dat w L) (hw : Wel L) (hs : ∀ x ∈ L, x.n ≤ 1000000) (hn : n ≤ 1000000)
  (gr : Rd w T 4 M nm (flat ecell more)) (gd : Dat w more) (gw : Wel more) (gs : ∀ x ∈ more, x.n ≤ 1000000) (hnm : nm ≤ 1000000),
  Calls Tryz.prog 127 #[.agg #[.int .i64 b, .int .i64 t, .slice A n c], .int .i64 ix, .int .i64 tm, .slice M nm cm] w (MergePostW w b t (L.map en) (mergeB b t (L.map en) ix tm (more.map en)) (mergeR b (L.map en) ix (more.map en)))
theorem rdE_of (x : Mr) : rdE x.ms.es = rdok x.L := by
 unfold rdE rdok
 show ((x.L.map en).all _) = _
 rw [List.all_map]
 rfl
theorem wel_msg {x : Mr} {W : World} {ok : Nat → Prop} (h : x.At W ok) (hf : x.Fit) : Wel x.L := fun y hy => ⟨(hf.w y hy).1, ((h.ed y hy).1.blen).symm⟩
theorem CTo.side {fb p zb i : Nat} {w W : World} {V U V' U' : Nat → Prop} {C : Cr} {m : Mb} (h : CTo fb w p V U C W V' U' m) (hz : U' zb ∧ ¬ V' zb) (hn : w.heap.size ≤ zb) (v : Value) : CTo fb w p V U C (W.setCell ⟨zb, i, none⟩ v) V' U' m := by
 have hk : ∀ b, b ≠ zb → (W.setCell ⟨zb, i, none⟩ v).heap[b]? = W.heap[b]? := fun b hb => heap_set_ne hb
 refine ⟨h.cx.hold (fun b _ ho => hk b fun e => ?_) (by rw [size_set]; exact Nat.le_refl _), h.vs, h.us, h.un, h.kept.trans ((Kept.refl (· = zb) W).grown (gb_set W zb i v) fun b e => by injection e with e; exact e.symm) fun b hb e => by omega⟩
 subst e
 exact ho.elim hz.2 fun h9 => h9 hz.1
theorem CTo.drew {fb p : Nat} {w W : World} {V U V' U' : Nat → Prop} {C : Cr} {m : Mb} (h : CTo fb w p V U C W V' U' m) : CTo fb w p V U C W.drew V' U' m := h.below (Below.refl _ _).drew
def OutPostE (fb : Nat) (W : World) (p : Nat) (V U : Nat → Prop) (r : Int → Cr × List Ms) (e : Ending) (w' : World) : Prop := ∃ j, OutPost fb W p V U (r j) e w'
theorem addC_low {C : Cr} {x : Ms} {draw k : Int} (h : x.term < C.s.tm) : C.add x draw k = (C, [C.say 4 x.fr]) := by unfold Cr.add; rw [if_pos h]
theorem addC_bad {C : Cr} {x : Ms} {draw k : Int} (h : ¬ x.term < C.s.tm) (h2 : rdE x.es = false) : C.add x draw k = (C, []) := by unfold Cr.add; rw [if_neg h, if_pos h2]
theorem addC_agst {C : Cr} {x : Ms} {draw k : Int} (h : ¬ x.term < C.s.tm) (h2 : rdE x.es = true) (h3 : (C.led x draw).against x = true) : C.add x draw k = (C.led x draw, []) := by
 unfold Cr.add
 rw [if_neg h, if_neg (by rw [h2]; decide)]
 dsimp only
 rw [if_pos h3]
theorem addC_yes {C : Cr} {x : Ms} {draw k : Int} (h : ¬ x.term < C.s.tm) (h2 : rdE x.es = true) (h3 : (C.led x draw).against x = false) (h4 : mergeB C.s.b C.s.t C.s.l x.ix x.lt x.es) :
  C.add x draw k = ({ (C.led x draw).withLog (mergeR C.s.b C.s.l x.ix x.es).1 with commit := max C.commit (min x.cm (mergeR C.s.b C.s.l x.ix x.es).2) }, [{ C.say 4 x.fr with rd := x.rd, ix := (mergeR C.s.b C.s.l x.ix x.es).2, ok := true }]) := by
 unfold Cr.add
 rw [if_neg h, if_neg (by rw [h2]; decide)]
 dsimp only
 have h5 : mergeOk (C.led x draw).s.b (C.led x draw).s.t (C.led x draw).s.l x.ix x.lt x.es = true := mergeOk_iff.2 h4
 rw [if_neg (by rw [h3]; decide), if_pos h5]
 rfl
theorem addC_no {C : Cr} {x : Ms} {draw k : Int} (h : ¬ x.term < C.s.tm) (h2 : rdE x.es = true) (h3 : (C.led x draw).against x = false) (h4 : ¬ mergeB C.s.b C.s.t C.s.l x.ix x.lt x.es) :
  C.add x draw k = (C.led x draw, [{ C.say 4 x.fr with rd := x.rd, ix := k }]) := by
 unfold Cr.add
 rw [if_neg h, if_neg (by rw [h2]; decide)]
 dsimp only
 have h5 : ¬ mergeOk (C.led x draw).s.b (C.led x draw).s.t (C.led x draw).s.l x.ix x.lt x.es = true := fun h5 => h4 (mergeOk_iff.1 h5)
 rw [if_neg (by rw [h3]; decide), if_neg h5]
set_option maxHeartbeats 25600000 in
theorem add_any (MG : MergeGives) {fb p : Nat} {w : World} {V U : Nat → Prop} {C : Cr} {m : Mb} {k : Nat} (x : Mr) (draw : Int) (h : CX fb w p V U C m) (ho : C.Ok k) (he : Env fb w) (hx : x.At w (fun b => ¬ U b)) (hf : x.Fit) (hmay : x.ms.may = true) :
  Calls Tryz.prog 69 #[.pointer (some ⟨p, 0, none⟩), x.val, .int .i64 draw] w (OutPostE fb w p V U (C.add x.ms draw)) := by
 obtain ⟨W0, hW0⟩ : ∃ W0, W0 = w.alloc (.cells x.cells 78) := ⟨_, rfl⟩
 have b0 : Bx W0 w.heap.size x.cells := by subst hW0; exact Bx.new _ _ _ rfl
 have hbe : Below w.heap.size w W0 := by subst hW0; exact (Below.refl _ _).alloc (Nat.le_refl _) _
 have hz0 : W0.heap.size = w.heap.size + 1 := by subst hW0; simp
 obtain ⟨k1, k2, k3, k4, k5, k6, k7⟩ := h.s_eq
 have hsay := say_any 4 x.fr (h.below hbe)
 have hP : ∀ W, Below w.heap.size w W → W.cell? ⟨p, 0, none⟩ = some (.int .i64 C.s.tm) := fun W hb => by rw [← k1]; exact (h.below hb).bx.c 0
 have vv : x.val = .agg (mcell x).toArray := rfl
 have VV := Lib.hid vv
 have HW := Lib.hid hW0
 have H := Lib.hid (And.intro h (And.intro ho (And.intro he (And.intro hx (And.intro b0 (And.intro hbe (And.intro hz0 (And.intro hf hmay))))))))
 have HP := Lib.hid hP
 have HK := Lib.hid (And.intro k3 (And.intro k4 k5))
 have Hsay := Lib.hid hsay
 rw [vv]
 obtain ⟨c0, c1, c2, c3, c4, c5, c6, c7, c8, c9, c10, c11⟩ := Mr.c12 b0
 clear hW0 b0 hbe hz0 k1 k2 k3 k4 k5 k6 k7 hsay hP h ho he hx hf vv hmay
 unfold mcell
 go_enter Tryz.func69, Tryz.ntmps69
 go_upto_region 1 with (fail)
 have HW' := HW.out
 unfold Mr.cells at HW'
 rw [← HW']
 clear HW'
 go_wp2_with fail
 refine Hsay.out.mono ?_
 rintro e w1 ⟨rfl, hb1⟩
 unfold Mr.val Cr.sayM
 dsimp only
 go_upto_region 2 with (fail)
 obtain ⟨W2, hW2⟩ : ∃ W2, W2 = w1.alloc (.cells #[.int .i64 4, .int .i64 C.id, .int .i64 x.fr, .int .i64 C.s.tm, .int .i64 0, .int .i64 0, .int .i64 0, .int .i64 0, .bool false, .int .i64 0, .slice none 0 0, .slice none 0 0] 78) := ⟨_, rfl⟩
 have z2 : Bx W2 w1.heap.size #[.int .i64 4, .int .i64 C.id, .int .i64 x.fr, .int .i64 C.s.tm, .int .i64 0, .int .i64 0, .int .i64 0, .int .i64 0, .bool false, .int .i64 0, .slice none 0 0, .slice none 0 0] := by subst hW2; exact Bx.new w1 _ 78 rfl
 have b12 : Below w1.heap.size w1 W2 := by subst hW2; exact (Below.refl _ _).alloc (Nat.le_refl _) _
 have b02 : Below W0.heap.size W0 W2 := hb1.trans (b12.mono hb1.size)
 rw [← hW2]
 have hbw2 := H.out.2.2.2.2.2.1.trans (b02.mono H.out.2.2.2.2.2.1.size)
 have hx2 := H.out.2.2.2.2.1.below b02
 have K2 := Lib.hid (And.intro z2 (And.intro b02 (And.intro hb1.size (And.intro hbw2 hx2))))
 clear hW2 z2 b12 b02 hb1 c0 c1 c2 c3 c4 c5 c6 c7 c8 c9 c10 c11 hbw2 hx2
 have hzb : ¬ V w1.heap.size := fun hv => by have := H.out.1.ul _ (H.out.1.vu _ hv); have := K2.out.2.2.1; have := H.out.2.2.2.2.2.2.1; omega
 have hzw : w.heap.size ≤ w1.heap.size := by have := K2.out.2.2.1; have := H.out.2.2.2.2.2.2.1; omega
 have hto2 : CTo fb w p V U C W2 V (fun b => U b ∨ b = w1.heap.size) m := by
  refine ⟨H.out.1.wide (fun b hb => .inl hb) (fun b hl hb => hb.elim id fun e => by omega) (fun b hl _ => K2.out.2.2.2.1.block b hl) K2.out.2.2.2.1.size (fun b hb => hb.elim (fun h9 => Nat.lt_of_lt_of_le (H.out.1.ul b h9) K2.out.2.2.2.1.size) fun e => e ▸ K2.out.1.lt), fun _ h => .inl h, fun _ h => .inl h, fun b hb => hb.elim .inl fun e => .inr (by omega), (Kept.of_new K2.out.2.2.2.1)⟩
 have ZB := Lib.hid (And.intro hzb (And.intro hzw hto2))
 clear hzb hzw hto2
 have p0 := HP.out W2 K2.out.2.2.2.1
 have d3 : W2.cell? ⟨w.heap.size, 3, none⟩ = some (.int .i64 x.term) := K2.out.2.2.2.2.c 3
 by_cases hlow : x.term < C.s.tm
 ·have hlI : decide (x.term < C.s.tm) = true := decide_eq_true hlow
  have E1 := Lib.hid (addC_low (C := C) (x := x.ms) (draw := draw) (k := 0) hlow)
  clear hlow
  obtain ⟨g0, g1, g2, g3, g4, g5, g6, g7, g8, g9, g10, g11⟩ := Bx.c12 K2.out.1
  go_region
  all_goals
   go_wp2_with fail
   go_ret
   refine ⟨0, ?_⟩
   rw [E1.out]
   exact out_one (x := (⟨4, C.id, x.fr, C.s.tm, 0, 0, 0, 0, false, 0, none, 0, 0, [], none, 0, 0, []⟩ : Mr)) (by show w.heap.size ≤ W2.heap.size; exact K2.out.2.2.2.1.size) ((CTo.refl H.out.1).below K2.out.2.2.2.1.drew) (Mr.At.bare _ _ _ _ _ _ _ _ _ _ _ _) (Mr.At.bare _ _ _ _ _ _ _ _ _ _ _ _)
 ·have hlI : decide (x.term < C.s.tm) = false := decide_eq_false hlow
  have HL := Lib.hid hlow
  clear hlow
  go_region
  all_goals
   clear p0 d3
   have g7 : W2.cell? ⟨w1.heap.size, 7, none⟩ = some (.int .i64 0) := K2.out.1.c 7
   have f7 := K2.out.1.f 7
   have d7 : W2.cell? ⟨w.heap.size, 7, none⟩ = some (.int .i64 x.rd) := K2.out.2.2.2.2.c 7
   go_upto_region 5 with (fail)
   obtain ⟨W3, hW3⟩ : ∃ W3, W3 = (W2.setCell ⟨w1.heap.size, 7, none⟩ (.int .i64 x.rd)).drew := ⟨_, rfl⟩
   have z3 : Bx W3 w1.heap.size #[.int .i64 4, .int .i64 C.id, .int .i64 x.fr, .int .i64 C.s.tm, .int .i64 0, .int .i64 0, .int .i64 0, .int .i64 x.rd, .bool false, .int .i64 0, .slice none 0 0, .slice none 0 0] := by subst hW3; exact (K2.out.1.set 7 _).drew
   have hb3 : Below W0.heap.size W0 W3 := by subst hW3; exact (K2.out.2.1.setCell (p := ⟨w1.heap.size, 7, none⟩) K2.out.2.2.1 _).drew
   have hto3 : CTo fb w p V U C W3 V (fun b => U b ∨ b = w1.heap.size) m := by subst hW3; exact (ZB.out.2.2.side ⟨.inr rfl, ZB.out.1⟩ ZB.out.2.1 _).drew
   have T3 := Lib.hid hto3
   rw [← hW3]
   clear hW3 g7 f7 d7 hto3
   have hbw3 := H.out.2.2.2.2.2.1.trans (hb3.mono H.out.2.2.2.2.2.1.size)
   have hx3 := H.out.2.2.2.2.1.below hb3
   have hxA3 := H.out.2.2.2.1.below hbw3
   have hne : w.heap.size ≠ w1.heap.size := by have := K2.out.2.2.1; have := H.out.2.2.2.2.2.2.1; omega
   have hrd := read_ok x.E x.ne x.ce x.L W3 hxA3.e.any hxA3.dat H.out.2.2.2.2.2.2.2.1.z.2 (H.out.2.2.1.new hbw3).ev
   rw [← rdE_of] at hrd
   obtain ⟨qr, hqr⟩ : ∃ q, rdE x.ms.es = q := ⟨_, rfl⟩
   rw [hqr] at hrd
   have d11 : W3.cell? ⟨w.heap.size, 11, none⟩ = some (.slice x.E x.ne x.ce) := hx3.c 11
   have K3 := Lib.hid (And.intro z3 (And.intro hb3 (And.intro hbw3 (And.intro hx3 (And.intro hxA3 (And.intro hne hqr))))))
   have Hrd := Lib.hid hrd
   clear z3 hb3 hbw3 hx3 hxA3 hne hrd hqr
   go_wp2_with fail
   refine Hrd.out.mono ?_
   rintro e w4 ⟨rfl, hb4⟩
   have hbw4 := K3.out.2.2.1.trans (hb4.mono K3.out.2.2.1.size)
   have hx4 := K3.out.2.2.2.1.below hb4
   have K4 := Lib.hid (And.intro hb4 (And.intro hbw4 hx4))
   have T4 := Lib.hid (T3.out.below hb4)
   clear hb4 hbw4 hx4 d11
   cases qr with
   | false =>
    go_wp2_with fail
    go_ret
    refine ⟨0, ?_⟩
    have NL : ¬ x.ms.term < C.s.tm := by have h9 := HL.out; show ¬ x.term < C.s.tm; omega
    rw [addC_bad NL K3.out.2.2.2.2.2.2]
    exact out_none rfl ((CTo.refl H.out.1).below K4.out.2.1)
   | true =>
    have hr4 := Mr.rng K4.out.2.2
    have HR4 := Lib.hid hr4
    have hled := led_any x draw T4.out.cx H.out.2.1
    rw [VV.out] at hled
    have Hled := Lib.hid hled
    unfold mcell at HR4 Hled
    clear hr4 hled
    go_upto_region 7 with (fail)
    refine wp_region_lit ?_
    refine BigFrame.wpList_want (by rfl) (fun K hK => ?_)
    go_simp
    refine hK _ _ ?_
    clear hK K
    try simp only [Act.put, lyA, lyB, lyC]
    refine wpList_load_mid rfl _ _ rfl _ _ rfl _ _ HR4.out Tryz.underlying78 rfl (by kernel_rfl) ?_
    go_wp2_with fail
    refine Hled.out.mono ?_
    rintro e w5 ⟨rfl, t5⟩
    have hto5 := T4.out.trans t5
    have hvb : ∀ b, w.heap.size ≤ b → ¬ V b := fun b hb hv => by have := H.out.1.ul b (H.out.1.vu b hv); omega
    have z5 : Bx w5 w1.heap.size #[.int .i64 4, .int .i64 C.id, .int .i64 x.fr, .int .i64 C.s.tm, .int .i64 0, .int .i64 0, .int .i64 0, .int .i64 x.rd, .bool false, .int .i64 0, .slice none 0 0, .slice none 0 0] := (K3.out.1.below K4.out.1).keep (t5.kept.block _ (K3.out.1.below K4.out.1).lt (hvb _ (by have := K2.out.2.2.1; have := H.out.2.2.2.2.2.2.1; omega)))
    have hx5 : Bx w5 w.heap.size x.cells := K4.out.2.2.keep (t5.kept.block _ K4.out.2.2.lt (hvb _ (Nat.le_refl _)))
    have hxA5 : x.At w5 (fun b => ¬ (U b ∨ b = w1.heap.size)) := hto5.msg (fun b hb => H.out.1.vu b hb) H.out.2.2.2.1
    obtain ⟨C1, hC1⟩ : ∃ C1, C.led x.ms draw = C1 := ⟨_, rfl⟩
    have hC1s : C1.s = C.s ∧ C1.commit = C.commit := by rw [← hC1]; exact ⟨rfl, rfl⟩
    have hok1 : C1.Ok k := by rw [← hC1]; exact H.out.2.1.led H.out.2.2.2.2.2.2.2.2 draw
    rw [hC1] at hto5
    have hag := against_any x hto5.cx hok1 hxA5 H.out.2.2.2.2.2.2.2.1.z.2
    rw [VV.out] at hag
    obtain ⟨qa, hqa⟩ : ∃ q, C1.against x.ms = q := ⟨_, rfl⟩
    rw [hqa] at hag
    have Hag := Lib.hid hag
    have hr5 := Mr.rng hx5
    have HR5 := Lib.hid hr5
    unfold mcell at HR5 Hag
    have K5 := Lib.hid (And.intro hto5 (And.intro z5 (And.intro hx5 (And.intro hxA5 (And.intro hC1 (And.intro hC1s (And.intro hok1 hqa)))))))
    clear t5 hto5 z5 hx5 hxA5 hC1 hC1s hok1 hag hqa hr5 hvb
    go_upto_region 8 with (fail)
    refine wp_region_lit ?_
    refine BigFrame.wpList_want (by rfl) (fun K hK => ?_)
    go_simp
    refine hK _ _ ?_
    clear hK K
    try simp only [Act.put, lyA, lyB, lyC]
    refine wpList_load_mid rfl _ _ rfl _ _ rfl _ _ HR5.out Tryz.underlying78 rfl (by kernel_rfl) ?_
    go_wp2_with fail
    refine Hag.out.mono ?_
    rintro e w6 ⟨rfl, hb6⟩
    have hto6 := K5.out.1.below hb6
    have z6 := K5.out.2.1.below hb6
    have hx6 := K5.out.2.2.1.below hb6
    have hxA6 := K5.out.2.2.2.1.below hb6
    have K6 := Lib.hid (And.intro hto6 (And.intro z6 (And.intro hx6 hxA6)))
    clear hto6 z6 hx6 hxA6 hb6
    cases qa with
    | true =>
     go_wp2_with fail
     go_ret
     refine ⟨0, ?_⟩
     have NL : ¬ x.ms.term < C.s.tm := by have h9 := HL.out; show ¬ x.term < C.s.tm; omega
     rw [addC_agst NL K3.out.2.2.2.2.2.2 (by rw [K5.out.2.2.2.2.1]; exact K5.out.2.2.2.2.2.2.2), K5.out.2.2.2.2.1]
     exact out_none rfl K6.out.1
    | false =>
     have hcx6 := K6.out.1.cx
     have hft := hcx6.fit K5.out.2.2.2.2.2.2.1
     obtain ⟨k1, k2, k3, k4, k5, k6, k7⟩ := hcx6.s_eq
     have hmg := fun W (hb : Below w6.heap.size w6 W) => MG m.s.b m.s.t x.ix x.lt m.s.A m.s.n m.s.c m.s.L x.E x.ne x.ce x.L W (hcx6.below hb).at_.l.any (hcx6.below hb).at_.dat (hcx6.at_.wel hft) (fun y hy => (hft.w y hy).2) hft.z.1 (K6.out.2.2.2.below hb).e.any (K6.out.2.2.2.below hb).dat (wel_msg K6.out.2.2.2 H.out.2.2.2.2.2.2.2.1) (fun y hy => (H.out.2.2.2.2.2.2.2.1.w y hy).2) H.out.2.2.2.2.2.2.2.1.z.2
     rw [k3, k4, k5, K5.out.2.2.2.2.2.1.1] at hmg
     have F6 : Hid (∀ W, Below w6.heap.size w6 W → (W.cell? ⟨p, 2, none⟩ = some (.int .i64 C.s.b) ∧ W.cell? ⟨p, 3, none⟩ = some (.int .i64 C.s.t) ∧ W.cell? ⟨p, 4, none⟩ = some (.slice m.s.A m.s.n m.s.c)) ∧ W.cell? ⟨w.heap.size, 4, none⟩ = some (.int .i64 x.ix) ∧ W.cell? ⟨w.heap.size, 5, none⟩ = some (.int .i64 x.lt) ∧ W.cell? ⟨w.heap.size, 11, none⟩ = some (.slice x.E x.ne x.ce)) := Lib.hid fun W hb => by
      have hxx := (hcx6.below hb).bx
      refine ⟨⟨?_, ?_, hxx.c 4⟩, (K6.out.2.2.1.below hb).c 4, (K6.out.2.2.1.below hb).c 5, (K6.out.2.2.1.below hb).c 11⟩
      ·rw [← K5.out.2.2.2.2.2.1.1, ← k3]; exact hxx.c 2
      ·rw [← K5.out.2.2.2.2.2.1.1, ← k4]; exact hxx.c 3
     have Hmg := Lib.hid hmg
     have KE := Lib.hid (And.intro k3 (And.intro k4 (And.intro k5 hft)))
     clear hcx6 hft k1 k2 k3 k4 k5 k6 k7 hmg
     go_upto_region 10 with (fail)
     go_cut [8, 9, 10] (fun s8 s9 s10 W => ∃ (b' t' : Int) (A' : Option Addr) (n' c' : Nat) (L' : List Er) (kk : Int) (o : Bool) (g : Nat), s8 = .pointer (some ⟨g, 0, none⟩) ∧ s9 = .int .i64 kk ∧ s10 = .bool o ∧ Bx W g #[.int .i64 b', .int .i64 t', .slice A' n' c'] ∧ w6.heap.size ≤ g ∧ Rd W (w6.heap.size ≤ ·) 4 A' n' (flat ecell L') ∧ DatB W w6.heap.size L' ∧ (n' ≤ c' ∧ c' ≤ maxLen) ∧ MgCase C.s.b C.s.t C.s.l (mergeB C.s.b C.s.t C.s.l x.ix x.lt (x.L.map en)) (mergeR C.s.b C.s.l x.ix (x.L.map en)) b' t' (L'.map en) kk o ∧ Below w6.heap.size w6 W)
     case first =>
      refine wp_region_S 19 (fun W => Below w6.heap.size w6 W) (.take 0 (.take 1 (.take 2 (.take 3 (.take 4 (.take 5 (.take 6 (.take 7 (.take 8 (.take 9 (.take 10 (.two 11 16 (.take 12 (.take 13 (.take 14 (.take 15 (.one 16 (.one 17 (.take 18 (.one 19 (.nil))))))))) (.one 11 (.take 12 (.take 13 (.take 14 (.take 15 (.one 17 (.take 18 (.one 19 (.nil))))))))))))))))))))) (by kernel_rfl) (Below.refl _ _).drew (fun _ _ _ _ h => h) (fun hS => ?_)
      repeat (first
       | (refine wpS_take (v := ?_) rfl rfl (by rfl) ?_ ?_; rotate_left; (intro W hW; have hf := F6.out W hW; go_split_ands; go_simp; try with_reducible rfl); try simp only [Act.put, lyA, lyB, lyC])
       | (refine wpS_skip rfl rfl (by rfl) ?_; try simp only [Act.put, lyA, lyB, lyC]))
      refine wpS_two rfl rfl (by rfl) (by rfl) (fun K hK => ?_) (fun K hK => ?_)
      ·go_simp
       go_at_call 127
       refine (Hmg.out _ hS).mono ?_
       intro e w7 h7
       obtain ⟨b', t', A', n', c', L', kk, o, rfl, q1, q2, q3, q4, q5⟩ := h7
       have hS7 : Below w6.heap.size w6 w7 := (Below.refl _ _).drew.trans q5
       have Q7 := Lib.hid (And.intro q1 (And.intro q2 (And.intro q3 q4)))
       refine hK (fun W => Below w6.heap.size w6 W) _ _ (fun _ h => h) hS7 ?_
       clear hK K q1 q2 q3 q4 q5
       try simp only [Act.put, lyA, lyB, lyC]
       repeat (first
        | (refine wpS_take (v := ?_) rfl rfl (by rfl) ?_ ?_; rotate_left; (intro W hW; have hf := F6.out W hW; go_split_ands; go_simp; try with_reducible rfl); try simp only [Act.put, lyA, lyB, lyC])
        | (refine wpS_skip rfl rfl (by rfl) ?_; try simp only [Act.put, lyA, lyB, lyC]))
       refine wpS_one rfl (by rfl) (fun K hK => ?_)
       go_simp
       obtain ⟨W8, hW8⟩ : ∃ W8, W8 = w7.alloc (.cells #[.int .i64 0, .int .i64 0, .slice none 0 0] 38) := ⟨_, rfl⟩
       have b8 : Bx W8 w7.heap.size #[.int .i64 0, .int .i64 0, .slice none 0 0] := by subst hW8; exact Bx.new _ _ _ rfl
       have h78 : Below w7.heap.size w7 W8 := by subst hW8; exact (Below.refl _ _).alloc (Nat.le_refl _) _
       rw [← hW8]
       have hS8 : Below w6.heap.size w6 W8 := hS7.trans (h78.mono hS7.size)
       have Q8 := Lib.hid (And.intro b8 (And.intro h78 hS7.size))
       refine hK (fun W => Below w6.heap.size w6 W) _ _ (fun _ h => h) hS8 ?_
       clear hK K hW8 h78
       try simp only [Act.put, lyA, lyB, lyC]
       obtain ⟨i0, i1, i2, f0, f1, f2⟩ := b8.c3
       clear b8
       refine wpS_one rfl (by rfl) (fun K hK => ?_)
       go_simp
       refine hK (fun W => Below w6.heap.size w6 W) _ _ (fun _ h => h) (((hS8.setCell (p := ⟨w7.heap.size, 0, none⟩) hS7.size _).setCell (p := ⟨w7.heap.size, 1, none⟩) hS7.size _).setCell (p := ⟨w7.heap.size, 2, none⟩) hS7.size _) ?_
       clear hK K i0 i1 i2 f0 f1 f2
       try simp only [Act.put, lyA, lyB, lyC]
       repeat (first
        | (refine wpS_take (v := ?_) rfl rfl (by rfl) ?_ ?_; rotate_left; (intro W hW; have hf := F6.out W hW; go_split_ands; go_simp; try with_reducible rfl); try simp only [Act.put, lyA, lyB, lyC])
        | (refine wpS_skip rfl rfl (by rfl) ?_; try simp only [Act.put, lyA, lyB, lyC]))
       refine wpS_last rfl (by rfl) (fun K hK => ?_)
       go_simp
       refine hK _ _ ?_
       clear hK K
       try simp only [Act.put, lyA, lyB, lyC]
       refine wpS_nil ?_
       obtain ⟨W9, hW9⟩ : ∃ W9, W9 = ((W8.setCell ⟨w7.heap.size, 0, none⟩ (.int .i64 b')).setCell ⟨w7.heap.size, 1, none⟩ (.int .i64 t')).setCell ⟨w7.heap.size, 2, none⟩ (.slice A' n' c') := ⟨_, rfl⟩
       have b9 : Bx W9 w7.heap.size #[.int .i64 b', .int .i64 t', .slice A' n' c'] := by subst hW9; exact ((Q8.out.1.set 0 _).set 1 _).set 2 _
       have h79 : Below w7.heap.size w7 W9 := by subst hW9; exact ((Q8.out.2.1.setCell (p := ⟨w7.heap.size, 0, none⟩) (Nat.le_refl _) _).setCell (p := ⟨w7.heap.size, 1, none⟩) (Nat.le_refl _) _).setCell (p := ⟨w7.heap.size, 2, none⟩) (Nat.le_refl _) _
       rw [← hW9]
       clear hW9 hS8
       go_wp2_with fail
       go_meet
       case rel => exact ⟨b', t', A', n', c', L', kk, o, w7.heap.size, rfl, rfl, rfl, b9, hS7.size, Q7.out.1.below h79, fun y hy => ⟨(Q7.out.2.1 y hy).1.below h79, (Q7.out.2.1 y hy).2⟩, Q7.out.2.2.1, Q7.out.2.2.2, hS7.trans (h79.mono hS7.size)⟩
      ·go_simp
       obtain ⟨W8, hW8⟩ : ∃ W8, W8 = (w6.alloc (.cells #[.int .i64 0, .int .i64 0, .slice none 0 0] 38)).drew := ⟨_, rfl⟩
       have b8 : Bx W8 w6.heap.size #[.int .i64 0, .int .i64 0, .slice none 0 0] := by subst hW8; exact (Bx.new w6 _ 38 rfl).drew
       have hS8 : Below w6.heap.size w6 W8 := by subst hW8; exact ((Below.refl _ _).alloc (Nat.le_refl _) _).drew
       have hz8 : W8.heap.size = w6.heap.size + 1 := by subst hW8; show (w6.alloc _).heap.size = _; simp
       rw [← hW8]
       refine hK (fun W => Below w6.heap.size w6 W) _ _ (fun _ h => h) hS8 ?_
       clear hK K hW8
       try simp only [Act.put, lyA, lyB, lyC]
       refine wpS_one rfl (by rfl) (fun K hK => ?_)
       go_simp
       go_at_call 127
       refine (Hmg.out _ hS8).mono ?_
       intro e w7 h7
       obtain ⟨b', t', A', n', c', L', kk, o, rfl, q1, q2, q3, q4, q5⟩ := h7
       have hS7 : Below w6.heap.size w6 w7 := hS8.trans (q5.mono hS8.size)
       have b7 := b8.below q5
       have Q7 := Lib.hid (And.intro q1 (And.intro q2 (And.intro q3 (And.intro q4 b7))))
       refine hK (fun W => Below w6.heap.size w6 W) _ _ (fun _ h => h) hS7 ?_
       clear hK K q1 q2 q3 q4 q5 b8
       try simp only [Act.put, lyA, lyB, lyC]
       repeat (first
        | (refine wpS_take (v := ?_) rfl rfl (by rfl) ?_ ?_; rotate_left; (intro W hW; have hf := F6.out W hW; go_split_ands; go_simp; try with_reducible rfl); try simp only [Act.put, lyA, lyB, lyC])
        | (refine wpS_skip rfl rfl (by rfl) ?_; try simp only [Act.put, lyA, lyB, lyC]))
       obtain ⟨i0, i1, i2, f0, f1, f2⟩ := b7.c3
       clear b7
       refine wpS_one rfl (by rfl) (fun K hK => ?_)
       go_simp
       refine hK (fun W => Below w6.heap.size w6 W) _ _ (fun _ h => h) (((hS7.setCell (p := ⟨w6.heap.size, 0, none⟩) (Nat.le_refl _) _).setCell (p := ⟨w6.heap.size, 1, none⟩) (Nat.le_refl _) _).setCell (p := ⟨w6.heap.size, 2, none⟩) (Nat.le_refl _) _) ?_
       clear hK K i0 i1 i2 f0 f1 f2
       try simp only [Act.put, lyA, lyB, lyC]
       repeat (first
        | (refine wpS_take (v := ?_) rfl rfl (by rfl) ?_ ?_; rotate_left; (intro W hW; have hf := F6.out W hW; go_split_ands; go_simp; try with_reducible rfl); try simp only [Act.put, lyA, lyB, lyC])
        | (refine wpS_skip rfl rfl (by rfl) ?_; try simp only [Act.put, lyA, lyB, lyC]))
       refine wpS_last rfl (by rfl) (fun K hK => ?_)
       go_simp
       refine hK _ _ ?_
       clear hK K
       try simp only [Act.put, lyA, lyB, lyC]
       refine wpS_nil ?_
       obtain ⟨W9, hW9⟩ : ∃ W9, W9 = ((w7.setCell ⟨w6.heap.size, 0, none⟩ (.int .i64 b')).setCell ⟨w6.heap.size, 1, none⟩ (.int .i64 t')).setCell ⟨w6.heap.size, 2, none⟩ (.slice A' n' c') := ⟨_, rfl⟩
       have b9 : Bx W9 w6.heap.size #[.int .i64 b', .int .i64 t', .slice A' n' c'] := by subst hW9; exact ((Q7.out.2.2.2.2.set 0 _).set 1 _).set 2 _
       have h79 : Below w6.heap.size w6 W9 := by subst hW9; exact ((hS7.setCell (p := ⟨w6.heap.size, 0, none⟩) (Nat.le_refl _) _).setCell (p := ⟨w6.heap.size, 1, none⟩) (Nat.le_refl _) _).setCell (p := ⟨w6.heap.size, 2, none⟩) (Nat.le_refl _) _
       have hk9 : ∀ b, b ≠ w6.heap.size → W9.heap[b]? = w7.heap[b]? := fun b hb => by
        subst hW9
        iterate 3 refine (Below.heap_setCell _ _ _ b hb).trans ?_
        rfl
       rw [← hW9]
       clear hW9 hS7 hS8
       go_wp2_with fail
       go_meet
       case rel => exact ⟨b', t', A', n', c', L', kk, o, w6.heap.size, rfl, rfl, rfl, b9, Nat.le_refl _, (Q7.out.1.keep fun b hb _ => hk9 b (by have h9 : W8.heap.size ≤ b := hb; omega)).mono fun b hb => (by have h9 : W8.heap.size ≤ b := hb; omega), fun y hy => ⟨((Q7.out.2.1 y hy).1.keep fun b hb _ => hk9 b (by have h9 : W8.heap.size ≤ b := hb; omega)).mono fun b hb => (by have h9 : W8.heap.size ≤ b := hb; omega), (Q7.out.2.1 y hy).2⟩, Q7.out.2.2.1, Q7.out.2.2.2.1, h79⟩
     case rest =>
      obtain ⟨b', t', A', n', c', L', kk, o, g, rfl, rfl, rfl, hbg, hg6, hrd, hdt, hcap, hmc, hb7⟩ := hcut
      obtain ⟨w7, hw7⟩ : ∃ w7, w7 = wc := ⟨_, rfl⟩
      rw [← hw7] at hbg hrd hdt hb7 ⊢
      clear hw7
      have hto7 := K6.out.1.below hb7
      have z7 := K6.out.2.1.below hb7
      have hx7 := K6.out.2.2.1.below hb7
      have zc := z7.c 4
      have zc4 : w7.cell? ⟨w1.heap.size, 4, none⟩ = some (.int .i64 0) := z7.c 4
      have zc8 : w7.cell? ⟨w1.heap.size, 8, none⟩ = some (.bool false) := z7.c 8
      have zf4 := z7.f 4
      have zf8 := z7.f 8
      have hu6 : ∀ b, (U b ∨ b = w1.heap.size) → b < w6.heap.size := K6.out.1.cx.ul
      have C7 := Lib.hid (And.intro hto7 (And.intro z7 (And.intro hx7 (And.intro hbg (And.intro hg6 (And.intro hrd (And.intro hdt (And.intro hcap (And.intro hmc (And.intro hb7 hu6))))))))))
      clear hto7 z7 hx7 hbg hg6 hrd hdt hcap hmc hb7 hu6 zc
      go_upto_region 12 with (fail)
      obtain ⟨W8, hW8⟩ : ∃ W8, W8 = (w7.setCell ⟨w1.heap.size, 4, none⟩ (.int .i64 kk)).setCell ⟨w1.heap.size, 8, none⟩ (.bool o) := ⟨_, rfl⟩
      have z8 : Bx W8 w1.heap.size #[.int .i64 4, .int .i64 C.id, .int .i64 x.fr, .int .i64 C.s.tm, .int .i64 kk, .int .i64 0, .int .i64 0, .int .i64 x.rd, .bool o, .int .i64 0, .slice none 0 0, .slice none 0 0] := by subst hW8; exact (C7.out.2.1.set 4 _).set 8 _
      have hto8 : CTo fb w p V U C1 W8 V (fun b => U b ∨ b = w1.heap.size) m := by subst hW8; exact (C7.out.1.side ⟨.inr rfl, ZB.out.1⟩ ZB.out.2.1 _).side ⟨.inr rfl, ZB.out.1⟩ ZB.out.2.1 _
      have hk8 : ∀ b, b ≠ w1.heap.size → W8.heap[b]? = w7.heap[b]? := fun b hb => by subst hW8; exact (heap_set_ne hb).trans (heap_set_ne hb)
      have hs8 : W8.heap.size = w7.heap.size := by subst hW8; rw [size_set, size_set]
      rw [← hW8]
      have hx8 : Bx W8 w.heap.size x.cells := C7.out.2.2.1.keep (hk8 _ K3.out.2.2.2.2.2.1)
      have hg8 : Bx W8 g #[.int .i64 b', .int .i64 t', .slice A' n' c'] := C7.out.2.2.2.1.keep (hk8 _ fun e => by have := C7.out.2.2.2.2.1; have := K6.out.2.1.lt; omega)
      have NL : ¬ x.ms.term < C.s.tm := by have h9 := HL.out; show ¬ x.term < C.s.tm; omega
      have D8 := Lib.hid (And.intro z8 (And.intro hto8 (And.intro hk8 (And.intro hs8 (And.intro hx8 (And.intro hg8 NL))))))
      clear hW8 z8 hto8 hk8 hs8 hx8 hg8 NL zc4 zc8 zf4 zf8
      cases o with
      | false =>
       have hno : ¬ mergeB C.s.b C.s.t C.s.l x.ms.ix x.ms.lt x.ms.es := by
        rcases C7.out.2.2.2.2.2.2.2.2.1 with ⟨h9, _⟩ | ⟨_, h9, _⟩ | ⟨_, h9, _⟩
        ·cases h9
        ·exact h9
        ·exact h9
       obtain ⟨g0, g1, g2, g3, g4, g5, g6, g7, g8, g9, g10, g11⟩ := Bx.c12 D8.out.1
       have NO := Lib.hid hno
       clear hno
       go_wp2_with fail
       go_ret
       refine ⟨kk, ?_⟩
       rw [addC_no (show ¬ x.ms.term < C.s.tm from fun h8 => by have h9 := HL.out; have h8 : x.term < C.s.tm := h8; omega) K3.out.2.2.2.2.2.2 (by rw [K5.out.2.2.2.2.1]; exact K5.out.2.2.2.2.2.2.2) NO.out, K5.out.2.2.2.2.1]
       exact out_one (x := (⟨4, C.id, x.fr, C.s.tm, kk, 0, 0, x.rd, false, 0, none, 0, 0, [], none, 0, 0, []⟩ : Mr)) D8.out.2.1.kept.size D8.out.2.1 (Mr.At.bare _ _ _ _ _ _ _ _ _ _ _ _) (Mr.At.bare _ _ _ _ _ _ _ _ _ _ _ _)
      | true =>
       obtain ⟨hyes, eb, et, el, ek⟩ : mergeB C.s.b C.s.t C.s.l x.ms.ix x.ms.lt x.ms.es ∧ b' = C.s.b ∧ t' = C.s.t ∧ L'.map en = (mergeR C.s.b C.s.l x.ms.ix x.ms.es).1 ∧ kk = (mergeR C.s.b C.s.l x.ms.ix x.ms.es).2 := by
        rcases C7.out.2.2.2.2.2.2.2.2.1 with ⟨_, h9⟩ | ⟨h9, _⟩ | ⟨h9, _⟩
        ·exact h9
        ·cases h9
        ·cases h9
       have hwt : W8.cell? ⟨g, 0, none⟩ = some (.int .i64 b') ∧ W8.cell? ⟨g, 1, none⟩ = some (.int .i64 t') ∧ W8.cell? ⟨g, 2, none⟩ = some (.slice A' n' c') := ⟨D8.out.2.2.2.2.2.1.c 0, D8.out.2.2.2.2.2.1.c 1, D8.out.2.2.2.2.2.1.c 2⟩
       obtain ⟨i0, i1, i2⟩ := hwt
       have p2 : W8.cell? ⟨p, 2, none⟩ = some (.int .i64 m.s.b) := D8.out.2.1.cx.bx.c 2
       have p3 : W8.cell? ⟨p, 3, none⟩ = some (.int .i64 m.s.t) := D8.out.2.1.cx.bx.c 3
       have p4 : W8.cell? ⟨p, 4, none⟩ = some (.slice m.s.A m.s.n m.s.c) := D8.out.2.1.cx.bx.c 4
       have f2 := D8.out.2.1.cx.bx.f 2
       have f3 := D8.out.2.1.cx.bx.f 3
       have f4 := D8.out.2.1.cx.bx.f 4
       have YY := Lib.hid (And.intro hyes (And.intro el (And.intro ek (And.intro eb et))))
       clear hyes el ek eb et
       go_upto_region 14 with (fail)
       obtain ⟨W9, hW9⟩ : ∃ W9, W9 = ((W8.setCell ⟨p, 2, none⟩ (.int .i64 b')).setCell ⟨p, 3, none⟩ (.int .i64 t')).setCell ⟨p, 4, none⟩ (.slice A' n' c') := ⟨_, rfl⟩
       have ebm : m.s.b = b' ∧ m.s.t = t' := by
        rw [YY.out.2.2.2.1, YY.out.2.2.2.2, KE.out.1, KE.out.2.1, K5.out.2.2.2.2.2.1.1]
        exact ⟨rfl, rfl⟩
       have hto9 : CTo fb w p V U (C1.withLog (L'.map en)) W9 V (fun b => U b ∨ b = w1.heap.size) (m.withLog A' n' c' L') := by
        have hq : ∀ b, w6.heap.size ≤ b → b ≠ w1.heap.size := fun b hb e => by have := K6.out.2.1.lt; omega
        have h9 := D8.out.2.1.logged (A := A') (n := n') (c := c') (L := L') ((C7.out.2.2.2.2.2.1.keep fun b hb _ => D8.out.2.2.1 b (hq b hb)).mono fun b hb hu => by have h1 := C7.out.2.2.2.2.2.2.2.2.2.2 b hu; have h2 : w6.heap.size ≤ b := hb; omega)
         (fun y hy => ⟨((C7.out.2.2.2.2.2.2.1 y hy).1.keep fun b hb _ => D8.out.2.2.1 b (hq b hb)).mono fun b hb hu => by have h1 := C7.out.2.2.2.2.2.2.2.2.2.2 b hu; have h2 : w6.heap.size ≤ b := hb; omega, (C7.out.2.2.2.2.2.2.1 y hy).2⟩) C7.out.2.2.2.2.2.2.2.1
        rw [ebm.1, ebm.2] at h9
        rw [hW9]
        exact h9
       have gb9 : W8.grownBy W9 (some p) := by subst hW9; exact gb_trans (gb_trans (gb_set _ p 2 _) (gb_set _ p 3 _)) (gb_set _ p 4 _)
       have hpn : w1.heap.size ≠ p ∧ w.heap.size ≠ p := by have := H.out.1.bx.lt; have := ZB.out.2.1; omega
       have z9 : Bx W9 w1.heap.size #[.int .i64 4, .int .i64 C.id, .int .i64 x.fr, .int .i64 C.s.tm, .int .i64 kk, .int .i64 0, .int .i64 0, .int .i64 x.rd, .bool true, .int .i64 0, .slice none 0 0, .slice none 0 0] := D8.out.1.keep (gb9.block _ D8.out.1.lt fun e => hpn.1 (Option.some.inj e))
       have hx9 : Bx W9 w.heap.size x.cells := D8.out.2.2.2.2.1.keep (gb9.block _ D8.out.2.2.2.2.1.lt fun e => hpn.2 (Option.some.inj e))
       rw [← hW9]
       have E9 := Lib.hid (And.intro hto9 (And.intro z9 (And.intro hx9 hpn)))
       clear hW9 ebm hto9 gb9 hpn z9 hx9 i0 i1 i2 p2 p3 p4 f2 f3 f4
       have F9 : Hid (∀ W, Below W9.heap.size W9 W → W.cell? ⟨p, 9, none⟩ = some (.int .i64 C1.commit) ∧ W.cell? ⟨w.heap.size, 6, none⟩ = some (.int .i64 x.cm)) := Lib.hid fun W hb => ⟨(E9.out.1.cx.below hb).bx.c 9, (E9.out.2.2.1.below hb).c 6⟩
       refine wp_region_S 14 (fun W => Below W9.heap.size W9 W) (.take 0 (.take 1 (.take 2 (.take 3 (.take 4 (.take 5 (.take 6 (.take 7 (.take 8 (.one 9 (.one 10 (.take 11 (.take 12 (.take 13 (.one 14 (.nil)))))))))))))))) (by kernel_rfl) (Below.refl _ _).drew (fun _ _ _ _ h => h) (fun hS => ?_)
       repeat (first
        | (refine wpS_take (v := ?_) rfl rfl (by rfl) ?_ ?_; rotate_left; (intro W hW; have hf := F9.out W hW; go_split_ands; go_simp; try with_reducible rfl); try simp only [Act.put, lyA, lyB, lyC])
        | (refine wpS_skip rfl rfl (by rfl) ?_; try simp only [Act.put, lyA, lyB, lyC]))
       refine wpS_one rfl (by rfl) (fun K hK => ?_)
       go_simp
       refine hK (fun W => Below W9.heap.size W9 W) _ _ (fun _ h => h) hS ?_
       clear hK K
       try simp only [Act.put, lyA, lyB, lyC]
       refine wpS_one rfl (by rfl) (fun K hK => ?_)
       go_simp
       refine hK (fun W => Below W9.heap.size W9 W) _ _ (fun _ h => h) hS ?_
       clear hK K
       try simp only [Act.put, lyA, lyB, lyC]
       repeat (first
        | (refine wpS_take (v := ?_) rfl rfl (by rfl) ?_ ?_; rotate_left; (intro W hW; have hf := F9.out W hW; go_split_ands; go_simp; try with_reducible rfl); try simp only [Act.put, lyA, lyB, lyC])
        | (refine wpS_skip rfl rfl (by rfl) ?_; try simp only [Act.put, lyA, lyB, lyC]))
       have q9 : W9.cell? ⟨p, 9, none⟩ = some (.int .i64 C1.commit) := E9.out.1.cx.bx.c 9
       have f9 : W9.frozen? ⟨p, 9, none⟩ = false := E9.out.1.cx.bx.f 9
       refine wpS_last rfl (by rfl) (fun K hK => ?_)
       go_simp
       refine hK _ _ ?_
       clear hK K
       try simp only [Act.put, lyA, lyB, lyC]
       refine wpS_nil ?_
       obtain ⟨W10, hW10⟩ : ∃ W10, W10 = (W9.setCell ⟨p, 9, none⟩ (.int .i64 (max C1.commit (min x.cm kk)))).drew := ⟨_, rfl⟩
       have hto10 : CTo fb w p V U { C1.withLog (L'.map en) with commit := max C1.commit (min x.cm kk) } W10 V (fun b => U b ∨ b = w1.heap.size) (m.withLog A' n' c' L') := by
        subst hW10
        exact (CTo.cells (C' := { C1.withLog (L'.map en) with commit := max C1.commit (min x.cm kk) }) E9.out.1 (E9.out.1.cx.bx.set 9 (.int .i64 (max C1.commit (min x.cm kk)))) (gb_set W9 p 9 _) rfl rfl rfl rfl).drew
       have z10 : Bx W10 w1.heap.size #[.int .i64 4, .int .i64 C.id, .int .i64 x.fr, .int .i64 C.s.tm, .int .i64 kk, .int .i64 0, .int .i64 0, .int .i64 x.rd, .bool true, .int .i64 0, .slice none 0 0, .slice none 0 0] := by
        subst hW10
        exact (E9.out.2.1.keep (heap_set_ne E9.out.2.2.2.1)).drew
       rw [← hW10]
       have T10 := Lib.hid hto10
       obtain ⟨g0, g1, g2, g3, g4, g5, g6, g7, g8, g9, g10, g11⟩ := Bx.c12 z10
       clear hW10 hto10 z10 q9 f9
       go_wp2_with fail
       go_ret
       refine ⟨0, ?_⟩
       rw [addC_yes (show ¬ x.ms.term < C.s.tm from fun h8 => by have h9 := HL.out; have h8 : x.term < C.s.tm := h8; omega) K3.out.2.2.2.2.2.2 (by rw [K5.out.2.2.2.2.1]; exact K5.out.2.2.2.2.2.2.2) YY.out.1, K5.out.2.2.2.2.1, ← YY.out.2.1, ← YY.out.2.2.1, ← K5.out.2.2.2.2.2.1.2]
       exact out_one (x := (⟨4, C.id, x.fr, C.s.tm, kk, 0, 0, x.rd, true, 0, none, 0, 0, [], none, 0, 0, []⟩ : Mr)) T10.out.kept.size T10.out (Mr.At.bare _ _ _ _ _ _ _ _ _ _ _ _) (Mr.At.bare _ _ _ _ _ _ _ _ _ _ _ _)
def HeardByE (fb p : Nat) (f : FuncId) (args : Array Value) (C : Cr) (x : Mr) (r : Int → Cr × List Ms) : Prop :=
 ∀ (W : World) (V U : Nat → Prop) (m : Mb), CX fb W p V U C m → Env fb W → x.At W (fun b => ¬ U b) → Calls Tryz.prog f args W (OutPostE fb W p V U r)
set_option maxHeartbeats 12800000 in
theorem stepE_any {fb p : Nat} {w : World} {V U : Nat → Prop} {C : Cr} {m : Mb} {k : Nat} (x : Mr) (draw : Int) (h : CX fb w p V U C m) (ho : C.Ok k) (he : Env fb w) (hx : x.At w (fun b => ¬ U b)) (hn : x.ne ≤ 1000000)
  (h2 : x.ms.may = true → x.kind = 2 → HeardBy fb p 68 #[.pointer (some ⟨p, 0, none⟩), x.val] (C.newer x.ms) x ((C.newer x.ms).voted x.ms))
  (h3 : x.ms.may = true → x.kind = 3 → HeardByE fb p 69 #[.pointer (some ⟨p, 0, none⟩), x.val, .int .i64 draw] (C.newer x.ms) x ((C.newer x.ms).add x.ms draw))
  (h5 : x.ms.may = true → x.kind = 5 → HeardBy fb p 70 #[.pointer (some ⟨p, 0, none⟩), x.val, .int .i64 draw] (C.newer x.ms) x ((C.newer x.ms).take x.ms draw))
  (h6 : x.ms.may = true → (x.kind = 4 ∨ x.kind = 6) → HeardBy fb p 71 #[.pointer (some ⟨p, 0, none⟩), x.val] (C.newer x.ms) x ((C.newer x.ms).told x.ms)) :
  Calls Tryz.prog 27 #[.pointer (some ⟨p, 0, none⟩), x.val, .int .i64 draw] w (OutPostE fb w p V U (C.step x.ms draw)) := by
 obtain ⟨W0, hW0⟩ : ∃ W0, W0 = w.alloc (.cells x.cells 78) := ⟨_, rfl⟩
 have b0 : Bx W0 w.heap.size x.cells := by subst hW0; exact Bx.new _ _ _ rfl
 have hbe : Below w.heap.size w W0 := by subst hW0; exact (Below.refl _ _).alloc (Nat.le_refl _) _
 have hz0 : W0.heap.size = w.heap.size + 1 := by subst hW0; simp
 have hck := fun W (hb : Below W0.heap.size W0 W) => check_ms x W ((hx.below hbe).below hb) hn
 have hah := fun W (hb : Below W0.heap.size W0 W) => ahead_any x W ((hx.below hbe).below hb) hn
 obtain ⟨k1, k2, k3, k4, k5, k6, k7⟩ := h.s_eq
 have hF : ∀ W, Below W0.heap.size W0 W → W.cell? ⟨p, 11, none⟩ = some (.int .i64 C.id) ∧ W.cell? ⟨p, 0, none⟩ = some (.int .i64 C.s.tm) ∧ W.cell? ⟨p, 7, none⟩ = some (.int .i64 C.role) ∧ W.cell? ⟨w.heap.size, 0, none⟩ = some (.int .i64 x.kind) ∧ W.cell? ⟨w.heap.size, 2, none⟩ = some (.int .i64 x.dst) ∧ W.cell? ⟨w.heap.size, 3, none⟩ = some (.int .i64 x.term) := fun W hb => by
  have hxx := ((h.below hbe).below hb).bx
  refine ⟨hxx.c 11, ?_, hxx.c 7, (b0.below hb).c 0, (b0.below hb).c 2, (b0.below hb).c 3⟩
  rw [← k1]
  exact hxx.c 0
 have hrg : ∀ W, Below W0.heap.size W0 W → W.rangeAt w.heap.size 0 (mcell x) := fun W hb => Mr.rng (b0.below hb)
 obtain ⟨bad, hbad⟩ : ∃ q, C.deaf x.ms = q := ⟨_, rfl⟩
 have hbad' : bad = (!x.ms.may || (!(x.dst == C.id) || x.ms.ahead)) := by rw [← hbad]; rfl
 have HB := Lib.hid hbad
 obtain ⟨q1, e1⟩ : ∃ q, x.ms.may = q := ⟨_, rfl⟩
 obtain ⟨q2, e2⟩ : ∃ q, (x.dst == C.id) = q := ⟨_, rfl⟩
 obtain ⟨q3, e3⟩ : ∃ q, x.ms.ahead = q := ⟨_, rfl⟩
 have e2' : (x.dst != C.id) = !q2 := by rw [← e2]; rfl
 have hmk : x.ms.may = true → 1 ≤ x.kind ∧ x.kind ≤ 6 := fun hm => by
  have h1 := may_flat x.ms
  rw [hm] at h1
  have h2 := h1.symm
  rw [Bool.and_eq_true] at h2
  have h3 := h2.1
  unfold within1 at h3
  rw [Bool.and_eq_true] at h3
  exact ⟨of_decide_eq_true h3.1, of_decide_eq_true h3.2⟩
 rw [e1] at hbad'
 rw [e2, e3] at hbad'
 simp only [e1] at hck
 simp only [e3] at hah
 have Hbad := Lib.hid hbad'
 have HW := Lib.hid hW0
 have H := Lib.hid (And.intro h (And.intro ho (And.intro he (And.intro hx (And.intro b0 (And.intro hbe hz0))))))
 have Hck := Lib.hid hck
 have Hah := Lib.hid hah
 have FF := Lib.hid hF
 have Hrg := Lib.hid hrg
 have HK := Lib.hid (And.intro k1 (And.intro e1 hmk))
 have K2 := Lib.hid h2
 have K3 := Lib.hid h3
 have K5 := Lib.hid h5
 have K6 := Lib.hid h6
 clear hW0 b0 hbe hz0 hck hah k1 k2 k3 k4 k5 k6 k7 hF hrg hbad hbad' h ho he hx hn e2 e3 hmk h2 h3 h5 h6
 have bnd : Hid (bad = false → q1 = true ∧ q2 = true ∧ q3 = false) := Lib.hid fun hb => by
  have e := Hbad.out
  rw [hb] at e
  exact deaf_no e
 have vv : x.val = .agg (mcell x).toArray := rfl
 have VV := Lib.hid vv
 rw [vv]
 clear vv
 unfold mcell
 go_enter Tryz.func27, Tryz.ntmps27
 go_upto_region 1 with (fail)
 have HW' := HW.out
 unfold Mr.cells at HW'
 rw [← HW']
 clear HW'
 go_cut [26] (fun s26 W => s26 = .bool bad ∧ Below W0.heap.size W0 W)
 case first =>
  refine wp_region_S 19 (fun W => Below W0.heap.size W0 W) (.take 0 (.take 1 (.take 2 (.take 3 (.one 4 (.take 5 (.take 6 (.take 7 (.take 8 (.take 9 (.take 10 (.take 11 (.take 12 (.take 13 (.take 14 (.take 15 (.take 16 (.take 17 (.one 18 (.one 19 (.nil))))))))))))))))))))) (by kernel_rfl) (Below.refl _ _).drew (fun _ _ _ _ h => h) (fun hS => ?_)
  iterate 3 (first
   | (refine wpS_take (v := ?_) rfl rfl (by rfl) ?_ ?_; rotate_left; (intro W hW; have hf := FF.out W hW; go_split_ands; go_simp; try with_reducible rfl); try simp only [Act.put, lyA, lyB, lyC])
   | (refine wpS_skip rfl rfl (by rfl) ?_; try simp only [Act.put, lyA, lyB, lyC]))
  refine wpS_take rfl rfl (by rfl) (fun W hW => ld_whole _ _ rfl _ _ rfl _ _ (Hrg.out W hW) Tryz.underlying78 rfl (by kernel_rfl)) ?_
  try simp only [Act.put, lyA, lyB, lyC]
  refine wpS_one rfl (by rfl) (fun K hK => ?_)
  go_simp
  go_at_call 64
  refine (Hck.out _ hS).mono ?_
  rintro e w1 ⟨rfl, hb1⟩
  have hS1 : Below W0.heap.size W0 w1 := (Below.refl _ _).drew.trans hb1
  clear hb1
  refine hK (fun W => Below W0.heap.size W0 W) _ _ (fun _ h => h) hS1 ?_
  clear hK K
  try simp only [Act.put, lyA, lyB, lyC]
  cases q1 with
  | false =>
   rw [show (if false = true then (0 : Int) else 1) = 1 from rfl, show errE (1 : Int) = .iface 105 (.int .i64 1) from rfl]
   repeat (first
    | (refine wpS_take (v := ?_) rfl rfl (by rfl) ?_ ?_; rotate_left; (intro W hW; have hf := FF.out W hW; go_split_ands; go_simp; try with_reducible rfl); try simp only [Act.put, lyA, lyB, lyC])
    | (refine wpS_skip rfl rfl (by rfl) ?_; try simp only [Act.put, lyA, lyB, lyC]))
   refine wpS_pass rfl rfl (by rfl) ?_
   try simp only [Act.put, lyA, lyB, lyC]
   refine wpS_last rfl (by rfl) (fun K hK => ?_)
   go_simp
   refine hK _ _ ?_
   clear hK K
   try simp only [Act.put, lyA, lyB, lyC]
   refine wpS_nil ?_
   go_wp2_with fail
   go_meet
   case rel => exact ⟨by rw [Hbad.out]; rfl, hS1⟩
  | true =>
   rw [show (if true = true then (0 : Int) else 1) = 0 from rfl, show errE (0 : Int) = .nilIface from rfl]
   cases q2 with
   | false =>
    have e2'' : (x.dst != C.id) = true := e2'
    repeat (first
     | (refine wpS_take (v := ?_) rfl rfl (by rfl) ?_ ?_; rotate_left; (intro W hW; have hf := FF.out W hW; go_split_ands; go_simp; try with_reducible rfl); try simp only [Act.put, lyA, lyB, lyC])
     | (refine wpS_skip rfl rfl (by rfl) ?_; try simp only [Act.put, lyA, lyB, lyC]))
    refine wpS_pass rfl rfl (by rfl) ?_
    try simp only [Act.put, lyA, lyB, lyC]
    refine wpS_last rfl (by rfl) (fun K hK => ?_)
    go_simp
    refine hK _ _ ?_
    clear hK K
    try simp only [Act.put, lyA, lyB, lyC]
    refine wpS_nil ?_
    go_wp2_with fail
    go_meet
    case rel => exact ⟨by rw [Hbad.out]; rfl, hS1⟩
   | true =>
    have e2'' : (x.dst != C.id) = false := e2'
    iterate 12 (first
     | (refine wpS_take (v := ?_) rfl rfl (by rfl) ?_ ?_; rotate_left; (intro W hW; have hf := FF.out W hW; go_split_ands; go_simp; try with_reducible rfl); try simp only [Act.put, lyA, lyB, lyC])
     | (refine wpS_skip rfl rfl (by rfl) ?_; try simp only [Act.put, lyA, lyB, lyC]))
    refine wpS_take rfl rfl (by rfl) (fun W hW => ld_whole _ _ rfl _ _ rfl _ _ (Hrg.out W hW) Tryz.underlying78 rfl (by kernel_rfl)) ?_
    try simp only [Act.put, lyA, lyB, lyC]
    refine wpS_one rfl (by rfl) (fun K hK => ?_)
    go_simp
    go_at_call 65
    refine (Hah.out _ hS1).mono ?_
    rintro e w2 ⟨rfl, hb2⟩
    have hS2 : Below W0.heap.size W0 w2 := hS1.trans (hb2.mono hS1.size)
    clear hb2
    refine hK (fun W => Below W0.heap.size W0 W) _ _ (fun _ h => h) hS2 ?_
    clear hK K
    try simp only [Act.put, lyA, lyB, lyC]
    refine wpS_last rfl (by rfl) (fun K hK => ?_)
    go_simp
    refine hK _ _ ?_
    clear hK K
    try simp only [Act.put, lyA, lyB, lyC]
    refine wpS_nil ?_
    go_wp2_with fail
    go_meet
    case rel => exact ⟨by rw [Hbad.out]; cases q3 <;> rfl, hS2⟩
 case rest =>
  obtain ⟨rfl, hb1⟩ := hcut
  obtain ⟨w1, hw1⟩ : ∃ w1, w1 = wc := ⟨_, rfl⟩
  rw [← hw1] at hb1 ⊢
  clear hw1
  have B1 := Lib.hid hb1
  clear hb1
  cases bad with
  | true =>
   go_wp2_with fail
   go_ret
   refine ⟨0, ?_⟩
   rw [step_eq, HB.out, if_pos rfl]
   exact out_none rfl ((CTo.refl H.out.1).below (H.out.2.2.2.2.2.1.trans (B1.out.mono H.out.2.2.2.2.2.1.size)))
  | false =>
   obtain ⟨i1, i2, i3⟩ := bnd.out rfl
   have hmay : x.ms.may = true := HK.out.2.1.trans i1
   have M := Lib.hid hmay
   clear i1 i2 i3 hmay
   obtain ⟨newq, hnq⟩ : ∃ q, decide (C.s.tm < x.term) = q := ⟨_, rfl⟩
   have enw : C.newer x.ms = if newq = true then C.newerOf x.term else C := by rw [newer_eq, ← hnq]; rfl
   have NQ := Lib.hid enw
   clear enw
   go_upto_region 3 with (fail)
   refine wp_region_S 7 (fun W => Below W0.heap.size W0 W) (.take 0 (.take 1 (.take 2 (.take 3 (.take 4 (.take 5 (.take 6 (.one 7 (.nil))))))))) (by kernel_rfl) B1.out.drew (fun _ _ _ _ h => h) (fun hS => ?_)
   repeat (first
    | (refine wpS_take (v := ?_) rfl rfl (by rfl) ?_ ?_; rotate_left; (intro W hW; have hf := FF.out W hW; go_split_ands; go_simp; try with_reducible rfl); try simp only [Act.put, lyA, lyB, lyC])
    | (refine wpS_skip rfl rfl (by rfl) ?_; try simp only [Act.put, lyA, lyB, lyC]))
   refine wpS_last rfl (by rfl) (fun K hK => ?_)
   go_simp
   refine hK _ _ ?_
   clear hK K
   try simp only [Act.put, lyA, lyB, lyC]
   refine wpS_nil ?_
   go_upto_if 34 with (fail)
   go_cut [] (fun W => ∃ V' U' m', CTo fb w p V U (C.newer x.ms) W V' U' m' ∧ Bx W w.heap.size x.cells ∧ (∀ b, U' b → U b) ∧ Env fb W)
   case first =>
    have hb := H.out.2.2.2.2.2.1.trans (hS.mono H.out.2.2.2.2.2.1.size)
    have hc := H.out.1.below hb
    have hbx := H.out.2.2.2.2.1.below hS
    have hen := H.out.2.2.1.new hb
    have X := Lib.hid (And.intro hb (And.intro hc (And.intro hbx hen)))
    obtain ⟨c11, c0, c7, d0, d2, d3⟩ := FF.out w1 B1.out
    clear hb hc hbx hen hS
    cases newq with
    | false =>
     go_wp2_with fail
     go_meet
     case rel => exact ⟨V, U, m, by rw [NQ.out]; exact (CTo.refl H.out.1).below X.out.1, X.out.2.2.1, fun _ h => h, X.out.2.2.2⟩
    | true =>
     have f0 : w1.frozen? ⟨p, 0, none⟩ = false := X.out.2.1.bx.f 0
     have f1 : w1.frozen? ⟨p, 1, none⟩ = false := X.out.2.1.bx.f 1
     have c1 : w1.cell? ⟨p, 1, none⟩ = some (.int .i64 m.s.vt) := X.out.2.1.bx.c 1
     have hbb : Bx ((w1.drew.setCell ⟨p, 0, none⟩ (.int .i64 x.term)).setCell ⟨p, 1, none⟩ (.int .i64 0)) p ((m.tv x.term 0).cells { C with s := { C.s with tm := x.term, vt := 0 } }) := (X.out.2.1.bx.set 0 _).set 1 _
     have gb : w1.drew.grownBy ((w1.drew.setCell ⟨p, 0, none⟩ (.int .i64 x.term)).setCell ⟨p, 1, none⟩ (.int .i64 0)) (some p) := gb_trans (gb_set _ p 0 _) (gb_set _ p 1 _)
     have hto := X.out.2.1.tv (tm := x.term) (vt := 0) hbb gb rfl rfl rfl rfl
     have hfo := follow_any 0 hto.cx
     have T := Lib.hid (And.intro hto gb)
     have Hfo := Lib.hid hfo
     clear hbb gb hto hfo
     go_wp2_with fail
     refine Hfo.out.mono ?_
     rintro e w5 ⟨rfl, t5⟩
     have T5 := Lib.hid t5
     clear t5 c11 c0 c7 d0 d2 d3 f0 f1 c1
     go_wp2_with fail
     go_meet
     case rel =>
      have hto := (T.out.1.trans T5.out).up X.out.1
      have hne : w.heap.size ≠ p := by have := H.out.1.bx.lt; omega
      have b1 := X.out.2.2.1.keep (T.out.2.block _ X.out.2.2.1.lt fun e => hne (Option.some.inj e))
      have hvw : ¬ V w.heap.size := fun hv => by have := H.out.1.ul _ (H.out.1.vu _ hv); omega
      refine ⟨V, U, m.tv x.term 0, by rw [NQ.out]; exact hto, b1.keep (T5.out.kept.block _ b1.lt hvw), fun _ h => h, ?_⟩
      exact (X.out.2.2.2.kept T.out.1.kept H.out.1.vf).kept T5.out.kept H.out.1.vf
   case rest =>
    obtain ⟨V1, U1, m1, hto, hbx, hus, hen⟩ := hcut
    obtain ⟨w2, hw2⟩ : ∃ w2, w2 = wc := ⟨_, rfl⟩
    rw [← hw2] at hto hbx hen ⊢
    clear hw2 hnq
    obtain ⟨C1, hC1⟩ : ∃ C1, C.newer x.ms = C1 := ⟨_, rfl⟩
    rw [hC1] at hto
    have hx1 : x.At w2 (fun b => ¬ U1 b) := hto.msg (fun b hb => H.out.1.vu b hb) H.out.2.2.2.1
    have TT := Lib.hid (And.intro hto (And.intro hbx (And.intro hen hx1)))
    obtain ⟨d0, d1, d2, d3, d4, d5, d6, d7, d8, d9, d10, d11⟩ := Mr.c12 hbx
    have k2 := K2.out M.out
    have k3 := K3.out M.out
    have k5 := K5.out M.out
    have k6 := K6.out M.out
    rw [hC1] at k2 k3 k5 k6
    rw [VV.out] at k2 k3 k5 k6
    unfold mcell at k2 k3 k5 k6
    have hr := Mr.rng hbx
    unfold mcell at hr
    have KK := Lib.hid (And.intro k2 (And.intro k3 (And.intro k5 k6)))
    have HR := Lib.hid hr
    have hvt := fun (hk : x.kind = 1) => vote_any x draw hto.cx (k := k) (by rw [← hC1]; exact H.out.2.1.newer M.out)
    rw [VV.out] at hvt
    unfold mcell at hvt
    have HV := Lib.hid hvt
    have hmk := HK.out.2.2 M.out
    have HMK := Lib.hid hmk
    clear k2 k3 k5 k6 hr hto hbx hen hx1 hus hvt d1 d2 d4 d5 d6 d7 d8 d9 d10 d11 hmk NQ
    have hks : x.kind = 1 ∨ x.kind = 2 ∨ x.kind = 3 ∨ x.kind = 5 ∨ (x.kind = 4 ∨ x.kind = 6) := by have := HMK.out; omega
    rcases hks with hk | hk | hk | hk | hk
    ·have g1 : (x.kind == 1) = true := by rw [hk]; rfl
     have Hk := Lib.hid hk
     clear hk
     go_upto_region 8 with (fail)
     refine wp_region_lit ?_
     refine BigFrame.wpList_want (by rfl) (fun K hK => ?_)
     go_simp
     refine hK _ _ ?_
     clear hK K
     try simp only [Act.put, lyA, lyB, lyC]
     refine wpList_load_mid rfl _ _ rfl _ _ rfl _ _ HR.out Tryz.underlying78 rfl (by kernel_rfl) ?_
     go_wp2_with fail
     refine (HV.out Hk.out).mono ?_
     intro e w5 h5
     have h5 := OutPost.up TT.out.1 h5
     obtain ⟨A5, n5, c5, X5, V5, U5, m5, rfl, r5⟩ := h5
     have R5 := Lib.hid r5
     clear r5
     go_wp2_with fail
     go_ret
     refine ⟨0, ?_⟩
     rw [step_eq, HB.out, if_neg (by decide), if_pos (show x.ms.kind = 1 from Hk.out), hC1]
     exact ⟨A5, n5, c5, X5, V5, U5, m5, rfl, R5.out⟩
    ·have g1 : (x.kind == 1) = false := by rw [hk]; rfl
     have g2 : (x.kind == 2) = true := by rw [hk]; rfl
     have Hk := Lib.hid hk
     clear hk
     go_upto_region 10 with (fail)
     refine wp_region_lit ?_
     refine BigFrame.wpList_want (by rfl) (fun K hK => ?_)
     go_simp
     refine hK _ _ ?_
     clear hK K
     try simp only [Act.put, lyA, lyB, lyC]
     refine wpList_load_mid rfl _ _ rfl _ _ rfl _ _ HR.out Tryz.underlying78 rfl (by kernel_rfl) ?_
     go_wp2_with fail
     refine (KK.out.1 Hk.out w2 V1 U1 m1 TT.out.1.cx TT.out.2.2.1 TT.out.2.2.2).mono ?_
     intro e w5 h5
     have h5 := OutPost.up TT.out.1 h5
     obtain ⟨A5, n5, c5, X5, V5, U5, m5, rfl, r5⟩ := h5
     have R5 := Lib.hid r5
     clear r5
     go_wp2_with fail
     go_ret
     refine ⟨0, ?_⟩
     rw [step_eq, HB.out, if_neg (by decide), if_neg (show ¬ x.ms.kind = 1 from fun h => by rw [show x.ms.kind = x.kind from rfl, Hk.out] at h; omega), if_pos (show x.ms.kind = 2 from Hk.out), hC1]
     exact ⟨A5, n5, c5, X5, V5, U5, m5, rfl, R5.out⟩
    ·have g1 : (x.kind == 1) = false := by rw [hk]; rfl
     have g2 : (x.kind == 2) = false := by rw [hk]; rfl
     have g3 : (x.kind == 3) = true := by rw [hk]; rfl
     have Hk := Lib.hid hk
     clear hk
     go_upto_region 12 with (fail)
     refine wp_region_lit ?_
     refine BigFrame.wpList_want (by rfl) (fun K hK => ?_)
     go_simp
     refine hK _ _ ?_
     clear hK K
     try simp only [Act.put, lyA, lyB, lyC]
     refine wpList_load_mid rfl _ _ rfl _ _ rfl _ _ HR.out Tryz.underlying78 rfl (by kernel_rfl) ?_
     go_wp2_with fail
     refine (KK.out.2.1 Hk.out w2 V1 U1 m1 TT.out.1.cx TT.out.2.2.1 TT.out.2.2.2).mono ?_
     intro e w5 h5
     obtain ⟨jj, h5⟩ := h5
     have h5 := OutPost.up TT.out.1 h5
     obtain ⟨A5, n5, c5, X5, V5, U5, m5, rfl, r5⟩ := h5
     have R5 := Lib.hid r5
     clear r5
     go_wp2_with fail
     go_ret
     refine ⟨jj, ?_⟩
     rw [step_eq, HB.out, if_neg (by decide), if_neg (show ¬ x.ms.kind = 1 from fun h => by rw [show x.ms.kind = x.kind from rfl, Hk.out] at h; omega), if_neg (show ¬ x.ms.kind = 2 from fun h => by rw [show x.ms.kind = x.kind from rfl, Hk.out] at h; omega), if_pos (show x.ms.kind = 3 from Hk.out), hC1]
     exact ⟨A5, n5, c5, X5, V5, U5, m5, rfl, R5.out⟩
    ·have g1 : (x.kind == 1) = false := by rw [hk]; rfl
     have g2 : (x.kind == 2) = false := by rw [hk]; rfl
     have g3 : (x.kind == 3) = false := by rw [hk]; rfl
     have g5 : (x.kind == 5) = true := by rw [hk]; rfl
     have Hk := Lib.hid hk
     clear hk
     go_upto_region 14 with (fail)
     refine wp_region_lit ?_
     refine BigFrame.wpList_want (by rfl) (fun K hK => ?_)
     go_simp
     refine hK _ _ ?_
     clear hK K
     try simp only [Act.put, lyA, lyB, lyC]
     refine wpList_load_mid rfl _ _ rfl _ _ rfl _ _ HR.out Tryz.underlying78 rfl (by kernel_rfl) ?_
     go_wp2_with fail
     refine (KK.out.2.2.1 Hk.out w2 V1 U1 m1 TT.out.1.cx TT.out.2.2.1 TT.out.2.2.2).mono ?_
     intro e w5 h5
     have h5 := OutPost.up TT.out.1 h5
     obtain ⟨A5, n5, c5, X5, V5, U5, m5, rfl, r5⟩ := h5
     have R5 := Lib.hid r5
     clear r5
     go_wp2_with fail
     go_ret
     refine ⟨0, ?_⟩
     rw [step_eq, HB.out, if_neg (by decide), if_neg (show ¬ x.ms.kind = 1 from fun h => by rw [show x.ms.kind = x.kind from rfl, Hk.out] at h; omega), if_neg (show ¬ x.ms.kind = 2 from fun h => by rw [show x.ms.kind = x.kind from rfl, Hk.out] at h; omega), if_neg (show ¬ x.ms.kind = 3 from fun h => by rw [show x.ms.kind = x.kind from rfl, Hk.out] at h; omega), if_pos (show x.ms.kind = 5 from Hk.out), hC1]
     exact ⟨A5, n5, c5, X5, V5, U5, m5, rfl, R5.out⟩
    ·have g1 : (x.kind == 1) = false := by rcases hk with h | h <;> rw [h] <;> rfl
     have g2 : (x.kind == 2) = false := by rcases hk with h | h <;> rw [h] <;> rfl
     have g3 : (x.kind == 3) = false := by rcases hk with h | h <;> rw [h] <;> rfl
     have g5 : (x.kind == 5) = false := by rcases hk with h | h <;> rw [h] <;> rfl
     have r7 : w2.cell? ⟨p, 7, none⟩ = some (.int .i64 C1.role) := TT.out.1.cx.bx.c 7
     have r0 : w2.cell? ⟨p, 0, none⟩ = some (.int .i64 C1.s.tm) := by rw [← TT.out.1.cx.s_eq.1]; exact TT.out.1.cx.bx.c 0
     have d3 := (Mr.c12 TT.out.2.1).2.2.2.1
     have Hk := Lib.hid hk
     have ekk : Hid (C.step x.ms draw 0 = if C1.role ≠ 2 ∨ x.ms.term ≠ C1.s.tm then (C1, []) else C1.told x.ms) := Lib.hid (by
      rw [step_eq, HB.out, if_neg (by decide), if_neg (show ¬ x.ms.kind = 1 from (by omega : ¬ x.kind = 1)), if_neg (show ¬ x.ms.kind = 2 from (by omega : ¬ x.kind = 2)), if_neg (show ¬ x.ms.kind = 3 from (by omega : ¬ x.kind = 3)), if_neg (show ¬ x.ms.kind = 5 from (by omega : ¬ x.kind = 5)), hC1])
     clear hk
     go_upto_region 15 with (fail)
     by_cases hr : C1.role = 2
     ·have hr1 : (C1.role != 2) = false := by rw [hr]; rfl
      by_cases ht : x.term = C1.s.tm
      ·have ht1 : (x.term != C1.s.tm) = false := by rw [ht]; simp
       have EE := Lib.hid (ekk.out.trans (if_neg (fun h => h.elim (fun h1 => h1 hr) (fun h1 => h1 ht))))
       clear hr ht
       go_region
       all_goals
        go_upto_region 17 with (fail)
        refine wp_region_lit ?_
        refine BigFrame.wpList_want (by rfl) (fun K hK => ?_)
        go_simp
        refine hK _ _ ?_
        clear hK K
        try simp only [Act.put, lyA, lyB, lyC]
        refine wpList_load_mid rfl _ _ rfl _ _ rfl _ _ (show w2.drew.rangeAt w.heap.size 0 _ from HR.out) Tryz.underlying78 rfl (by kernel_rfl) ?_
        have hcx := TT.out.1.cx.drew
        have htl := KK.out.2.2.2 Hk.out w2.drew V1 U1 m1 hcx TT.out.2.2.1.drew (TT.out.2.2.2.below (Below.refl _ _).drew)
        have Htl := Lib.hid htl
        clear hcx htl
        go_wp2_with fail
        refine Htl.out.mono ?_
        intro e w5 h5
        have h5 := OutPost.up (TT.out.1.below (Below.refl _ _).drew) h5
        obtain ⟨A5, n5, c5, X5, V5, U5, m5, rfl, r5⟩ := h5
        have R5 := Lib.hid r5
        clear r5
        go_wp2_with fail
        go_ret
        refine ⟨0, ?_⟩
        rw [EE.out]
        exact ⟨A5, n5, c5, X5, V5, U5, m5, rfl, R5.out⟩
      ·have ht1 : (x.term != C1.s.tm) = true := by simpa using ht
       have EE := Lib.hid (ekk.out.trans (if_pos (.inr ht)))
       clear hr ht
       go_region
       all_goals
        go_wp2_with fail
        go_ret
        refine ⟨0, ?_⟩
        rw [EE.out]
        exact out_none rfl (TT.out.1.below (Below.refl _ _).drew)
     ·have hr1 : (C1.role != 2) = true := by simpa using hr
      have EE := Lib.hid (ekk.out.trans (if_pos (.inl hr)))
      clear hr
      go_region
      all_goals
       go_wp2_with fail
       go_ret
       refine ⟨0, ?_⟩
       rw [EE.out]
       exact out_none rfl (TT.out.1.below (Below.refl _ _).drew)
end Go.Proofs.YtmhaahcbmdhinaaGreatDoor
