/- Plain member: what its numbers keep within, through the messages that it hears. No program in sight.
   Walk: (*raft.Core).Step, over the contracts of what it calls. (Printed by mkstep.py.)
   Plain: the votes that a member has granted; what it tells to who stands. No program in sight.
   Plain law: one member alone. No program in sight.
   A member that is new, in memory. -/
import Derived.Test.YtmhaahcbmdhinaaGreatDoorKW25
import Derived.Test.YtmhaahcbmdhinaaGreatDoorKW18
import Derived.Deep.CutBlock
import Derived.Test.YtmhaahcbmdhinaaGreatDoorKW24
import Derived.Test.YtmhaahcbmdhinaaGreatDoorKW16
namespace Go.Proofs.YtmhaahcbmdhinaaGreatDoor
set_option linter.unusedVariables false
set_option linter.unusedSimpArgs false
theorem Ms.may_in {x : Ms} (h : x.may = true) : (1 ≤ x.kind ∧ x.kind ≤ 6) ∧ (1 ≤ x.fr ∧ x.fr ≤ 64) ∧ (1 ≤ x.dst ∧ x.dst ≤ 64) ∧ (1 ≤ x.term ∧ x.term ≤ 1099511627776) ∧ (0 ≤ x.ix ∧ x.ix ≤ 1099511627776) ∧ (0 ≤ x.lt ∧ x.lt ≤ 1099511627776) ∧ (0 ≤ x.cm ∧ x.cm ≤ 1099511627776) ∧ (0 ≤ x.rd ∧ x.rd ≤ 1099511627776) ∧ (0 ≤ x.off ∧ x.off ≤ 1099511627776) ∧ x.data.length ≤ 4096 ∧ x.es.length ≤ 64 := by
  rw [may_flat] at h
  unfold within1 at h
  simp only [Bool.and_eq_true, decide_eq_true_eq] at h
  obtain ⟨h1, h2, h3, _, h5, h6, h7, h8, h9, h10, h11, h12, _⟩ := h
  exact ⟨h1, h2, h3, h5, h6, h7, h8, h9, h10, h11, h12⟩
section
variable {C : Cr} {k : Nat}
theorem Cr.Ok.newer (h : C.Ok k) {x : Ms} (hx : x.may = true) : (C.newer x).Ok k := by
  have hb := (Ms.may_in hx).2.2.2.1
  unfold Cr.newer
  split
  · rename_i hlt
    have hm := h.may
    refine Cr.Ok.follow (C := { C with s := { C.s with tm := x.term, vt := 0 } }) ⟨?_, h.sn, h.id, h.span, h.role, h.leader, h.commit, h.round, h.gone, h.wait, h.votes, h.peers, h.key, h.hv, h.big⟩ (by omega)
    unfold St.may at hm ⊢
    simp only [Bool.and_eq_true, decide_eq_true_eq] at hm ⊢
    obtain ⟨⟨⟨⟨⟨⟨h1, h2⟩, h3⟩, h4⟩, h5⟩, h6⟩, h7⟩ := hm
    exact ⟨⟨⟨⟨⟨⟨h1, h2⟩, h3⟩, by omega⟩, by omega⟩, by omega⟩, by omega⟩
  · exact h
theorem Cr.Ok.votedFor (h : C.Ok k) {v : Int} (hv : 1 ≤ v ∧ v ≤ 64) : ({ C with s := { C.s with vt := v } } : Cr).Ok k := by
  have hm := h.may
  refine ⟨?_, h.sn, h.id, h.span, h.role, h.leader, h.commit, h.round, h.gone, h.wait, h.votes, h.peers, h.key, h.hv, h.big⟩
  unfold St.may at hm ⊢
  simp only [Bool.and_eq_true, decide_eq_true_eq] at hm ⊢
  obtain ⟨⟨⟨⟨⟨⟨h1, h2⟩, h3⟩, h4⟩, h5⟩, h6⟩, h7⟩ := hm
  exact ⟨⟨⟨⟨⟨⟨h1, h2⟩, h3⟩, h4⟩, h5⟩, by omega⟩, by omega⟩
theorem Cr.Ok.vote (h : C.Ok k) {x : Ms} (hx : x.may = true) (draw : Int) : (C.vote x draw).1.Ok k := by
  have hb := (Ms.may_in hx).2.1
  unfold Cr.vote
  dsimp only
  split
  · exact (h.votedFor hb).draws draw
  · exact h
end
end Go.Proofs.YtmhaahcbmdhinaaGreatDoor

namespace Go.Proofs.YtmhaahcbmdhinaaGreatDoor
open Go.RowKit
set_option maxRecDepth 100000
set_option linter.unusedVariables false
set_option linter.unusedSimpArgs false
theorem ld_whole {P : Program} {op : Oper} {a : Act} {w : World} (ty : TypeId) (x : Operand) (ho : op.op = .load ty x) (b o : Nat) (hx : a.eval x = .pointer (some ⟨b, o, none⟩)) (cs : List Value) (d : TypeDesc) (hc : w.rangeAt b o cs)
    (hu : P.underlying ty = some d) (hd : d.isRow = true) (hi : (P.info? ty).map (·.size) = some cs.length) : (execOp a.eval op).run P w = .ok (.value (.agg cs.toArray)) w := by
  unfold execOp
  simp only [ho, hx, Instr.loadAt, Instr.sureAddr, Sem.run_bind, Sem.run_pure, Result.andThen_ok, run_loadVar_mid w b o ty cs d hc hu hd hi]
def Cr.newerOf (C : Cr) (tm : Int) : Cr := ({ C with s := { C.s with tm := tm, vt := 0 } } : Cr).follow 0
theorem newer_eq (C : Cr) (x : Ms) : C.newer x = if decide (C.s.tm < x.term) = true then C.newerOf x.term else C := by
  unfold Cr.newer
  by_cases h : C.s.tm < x.term
  · rw [if_pos h, if_pos (decide_eq_true h)]; rfl
  · rw [if_neg h, if_neg (by rw [decide_eq_false h]; decide)]
def Cr.deaf (C : Cr) (x : Ms) : Bool := !x.may || (!(x.dst == C.id) || x.ahead)
theorem step_eq (C : Cr) (x : Ms) (draw k : Int) : C.step x draw k = if C.deaf x = true then (C, []) else
    if x.kind = 1 then (C.newer x).vote x draw else if x.kind = 2 then (C.newer x).voted x else if x.kind = 3 then (C.newer x).add x draw k else if x.kind = 5 then (C.newer x).take x draw else
    if (C.newer x).role ≠ 2 ∨ x.term ≠ (C.newer x).s.tm then (C.newer x, []) else (C.newer x).told x := by
  unfold Cr.step Cr.deaf
  have e : (x.may = false ∨ x.dst ≠ C.id ∨ x.ahead = true) ↔ (!x.may || (!(x.dst == C.id) || x.ahead)) = true := by
    rw [Bool.or_eq_true, Bool.or_eq_true]
    simp
  by_cases h : x.may = false ∨ x.dst ≠ C.id ∨ x.ahead = true
  · rw [if_pos h, if_pos (e.1 h)]
  · rw [if_neg h, if_neg (fun h2 => h (e.2 h2))]
theorem deaf_no {a b c : Bool} (h : false = (!a || (!b || c))) : a = true ∧ b = true ∧ c = false := by
  revert h
  cases a <;> cases b <;> cases c <;> decide
/-- What a callee makes of a message, at any place where the member stands. -/
def HeardBy (fb p : Nat) (f : FuncId) (args : Array Value) (C : Cr) (x : Mr) (r : Cr × List Ms) : Prop :=
  ∀ (W : World) (V U : Nat → Prop) (m : Mb), CX fb W p V U C m → Env fb W → x.At W (fun b => ¬ U b) → Calls Tryz.prog f args W (OutPost fb W p V U r)
set_option maxHeartbeats 12800000 in
theorem step_any {fb p : Nat} {w : World} {V U : Nat → Prop} {C : Cr} {m : Mb} {k : Nat} (x : Mr) (draw j : Int) (h : CX fb w p V U C m) (ho : C.Ok k) (he : Env fb w) (hx : x.At w (fun b => ¬ U b)) (hn : x.ne ≤ 1000000)
    (h2 : x.ms.may = true → x.kind = 2 → HeardBy fb p 68 #[.pointer (some ⟨p, 0, none⟩), x.val] (C.newer x.ms) x ((C.newer x.ms).voted x.ms))
    (h3 : x.ms.may = true → x.kind = 3 → HeardBy fb p 69 #[.pointer (some ⟨p, 0, none⟩), x.val, .int .i64 draw] (C.newer x.ms) x ((C.newer x.ms).add x.ms draw j))
    (h5 : x.ms.may = true → x.kind = 5 → HeardBy fb p 70 #[.pointer (some ⟨p, 0, none⟩), x.val, .int .i64 draw] (C.newer x.ms) x ((C.newer x.ms).take x.ms draw))
    (h6 : x.ms.may = true → (x.kind = 4 ∨ x.kind = 6) → HeardBy fb p 71 #[.pointer (some ⟨p, 0, none⟩), x.val] (C.newer x.ms) x ((C.newer x.ms).told x.ms)) :
    Calls Tryz.prog 27 #[.pointer (some ⟨p, 0, none⟩), x.val, .int .i64 draw] w (OutPost fb w p V U (C.step x.ms draw j)) := by
  obtain ⟨W0, hW0⟩ : ∃ W0, W0 = w.alloc (.cells x.cells 78) := ⟨_, rfl⟩
  have b0 : Bx W0 w.heap.size x.cells := by subst hW0; exact Bx.new _ _ _ rfl
  have hbe : Below w.heap.size w W0 := by subst hW0; exact (Below.refl _ _).alloc (Nat.le_refl _) _
  have hz0 : W0.heap.size = w.heap.size + 1 := by subst hW0; simp
  have hck := fun W (hb : Below W0.heap.size W0 W) => check_ms x W ((hx.below hbe).below hb) hn
  have hah := fun W (hb : Below W0.heap.size W0 W) => ahead_any x W ((hx.below hbe).below hb) hn
  obtain ⟨k1, k2, k3, k4, k5, k6, k7⟩ := h.s_eq
  have hF : ∀ W, Below W0.heap.size W0 W → W.cell? ⟨p, 11, none⟩ = some (.int .i64 C.id) ∧ W.cell? ⟨p, 0, none⟩ = some (.int .i64 C.s.tm) ∧ W.cell? ⟨p, 7, none⟩ = some (.int .i64 C.role) ∧ W.cell? ⟨w.heap.size, 0, none⟩ = some (.int .i64 x.kind) ∧ W.cell? ⟨w.heap.size, 2, none⟩ = some (.int .i64 x.dst) ∧ W.cell? ⟨w.heap.size, 3, none⟩ = some (.int .i64 x.term) := fun W hb => by
    have hxx := ((h.below hbe).below hb).bx
    refine ⟨hxx.c 11, ?_, hxx.c 7, (b0.below hb).c 0, (b0.below hb).c 2, (b0.below hb).c 3⟩
    rw [← k1]
    exact hxx.c 0
  have hrg : ∀ W, Below W0.heap.size W0 W → W.rangeAt w.heap.size 0 (mcell x) := fun W hb => Mr.rng (b0.below hb)
  obtain ⟨bad, hbad⟩ : ∃ q, C.deaf x.ms = q := ⟨_, rfl⟩
  have hbad' : bad = (!x.ms.may || (!(x.dst == C.id) || x.ms.ahead)) := by rw [← hbad]; rfl
  have HB := Lib.hid hbad
  obtain ⟨q1, e1⟩ : ∃ q, x.ms.may = q := ⟨_, rfl⟩
  obtain ⟨q2, e2⟩ : ∃ q, (x.dst == C.id) = q := ⟨_, rfl⟩
  obtain ⟨q3, e3⟩ : ∃ q, x.ms.ahead = q := ⟨_, rfl⟩
  have e2' : (x.dst != C.id) = !q2 := by rw [← e2]; rfl
  have hmk : x.ms.may = true → 1 ≤ x.kind ∧ x.kind ≤ 6 := fun hm => by
    have h1 := may_flat x.ms
    rw [hm] at h1
    have h2 := h1.symm
    rw [Bool.and_eq_true] at h2
    have h3 := h2.1
    unfold within1 at h3
    rw [Bool.and_eq_true] at h3
    exact ⟨of_decide_eq_true h3.1, of_decide_eq_true h3.2⟩
  rw [e1] at hbad'
  rw [e2, e3] at hbad'
  simp only [e1] at hck
  simp only [e3] at hah
  have Hbad := Lib.hid hbad'
  have HW := Lib.hid hW0
  have H := Lib.hid (And.intro h (And.intro ho (And.intro he (And.intro hx (And.intro b0 (And.intro hbe hz0))))))
  have Hck := Lib.hid hck
  have Hah := Lib.hid hah
  have FF := Lib.hid hF
  have Hrg := Lib.hid hrg
  have HK := Lib.hid (And.intro k1 (And.intro e1 hmk))
  have K2 := Lib.hid h2
  have K3 := Lib.hid h3
  have K5 := Lib.hid h5
  have K6 := Lib.hid h6
  clear hW0 b0 hbe hz0 hck hah k1 k2 k3 k4 k5 k6 k7 hF hrg hbad hbad' h ho he hx hn e2 e3 hmk h2 h3 h5 h6
  have bnd : Hid (bad = false → q1 = true ∧ q2 = true ∧ q3 = false) := Lib.hid fun hb => by
    have e := Hbad.out
    rw [hb] at e
    exact deaf_no e
  have vv : x.val = .agg (mcell x).toArray := rfl
  have VV := Lib.hid vv
  rw [vv]
  clear vv
  unfold mcell
  go_enter Tryz.func27, Tryz.ntmps27
  go_upto_region 1 with (fail)
  have HW' := HW.out
  unfold Mr.cells at HW'
  rw [← HW']
  clear HW'
  go_cut [26] (fun s26 W => s26 = .bool bad ∧ Below W0.heap.size W0 W)
  case first =>
    refine wp_region_S 19 (fun W => Below W0.heap.size W0 W) (.take 0 (.take 1 (.take 2 (.take 3 (.one 4 (.take 5 (.take 6 (.take 7 (.take 8 (.take 9 (.take 10 (.take 11 (.take 12 (.take 13 (.take 14 (.take 15 (.take 16 (.take 17 (.one 18 (.one 19 (.nil))))))))))))))))))))) (by kernel_rfl) (Below.refl _ _).drew (fun _ _ _ _ h => h) (fun hS => ?_)
    iterate 3 (first
      | (refine wpS_take (v := ?_) rfl rfl (by rfl) ?_ ?_; rotate_left; (intro W hW; have hf := FF.out W hW; go_split_ands; go_simp; try with_reducible rfl); try simp only [Act.put, List.setIfInBounds_toArray, List.set_cons_zero, List.set_cons_succ])
      | (refine wpS_skip rfl rfl (by rfl) ?_; try simp only [Act.put, List.setIfInBounds_toArray, List.set_cons_zero, List.set_cons_succ]))
    refine wpS_take rfl rfl (by rfl) (fun W hW => ld_whole _ _ rfl _ _ rfl _ _ (Hrg.out W hW) Tryz.underlying78 rfl (by kernel_rfl)) ?_
    try simp only [Act.put, List.setIfInBounds_toArray, List.set_cons_zero, List.set_cons_succ]
    refine wpS_one rfl (by rfl) (fun K hK => ?_)
    go_simp
    go_at_call 64
    refine (Hck.out _ hS).mono ?_
    rintro e w1 ⟨rfl, hb1⟩
    have hS1 : Below W0.heap.size W0 w1 := (Below.refl _ _).drew.trans hb1
    clear hb1
    refine hK (fun W => Below W0.heap.size W0 W) _ _ (fun _ h => h) hS1 ?_
    clear hK K
    try simp only [Act.put, List.setIfInBounds_toArray, List.set_cons_zero, List.set_cons_succ]
    cases q1 with
    | false =>
      rw [show (if false = true then (0 : Int) else 1) = 1 from rfl, show errE (1 : Int) = .iface 105 (.int .i64 1) from rfl]
      repeat (first
        | (refine wpS_take (v := ?_) rfl rfl (by rfl) ?_ ?_; rotate_left; (intro W hW; have hf := FF.out W hW; go_split_ands; go_simp; try with_reducible rfl); try simp only [Act.put, List.setIfInBounds_toArray, List.set_cons_zero, List.set_cons_succ])
        | (refine wpS_skip rfl rfl (by rfl) ?_; try simp only [Act.put, List.setIfInBounds_toArray, List.set_cons_zero, List.set_cons_succ]))
      refine wpS_pass rfl rfl (by rfl) ?_
      try simp only [Act.put, List.setIfInBounds_toArray, List.set_cons_zero, List.set_cons_succ]
      refine wpS_last rfl (by rfl) (fun K hK => ?_)
      go_simp
      refine hK _ _ ?_
      clear hK K
      try simp only [Act.put, List.setIfInBounds_toArray, List.set_cons_zero, List.set_cons_succ]
      refine wpS_nil ?_
      go_wp2_with fail
      go_meet
      case rel => exact ⟨by rw [Hbad.out]; rfl, hS1⟩
    | true =>
      rw [show (if true = true then (0 : Int) else 1) = 0 from rfl, show errE (0 : Int) = .nilIface from rfl]
      cases q2 with
      | false =>
        have e2'' : (x.dst != C.id) = true := e2'
        repeat (first
          | (refine wpS_take (v := ?_) rfl rfl (by rfl) ?_ ?_; rotate_left; (intro W hW; have hf := FF.out W hW; go_split_ands; go_simp; try with_reducible rfl); try simp only [Act.put, List.setIfInBounds_toArray, List.set_cons_zero, List.set_cons_succ])
          | (refine wpS_skip rfl rfl (by rfl) ?_; try simp only [Act.put, List.setIfInBounds_toArray, List.set_cons_zero, List.set_cons_succ]))
        refine wpS_pass rfl rfl (by rfl) ?_
        try simp only [Act.put, List.setIfInBounds_toArray, List.set_cons_zero, List.set_cons_succ]
        refine wpS_last rfl (by rfl) (fun K hK => ?_)
        go_simp
        refine hK _ _ ?_
        clear hK K
        try simp only [Act.put, List.setIfInBounds_toArray, List.set_cons_zero, List.set_cons_succ]
        refine wpS_nil ?_
        go_wp2_with fail
        go_meet
        case rel => exact ⟨by rw [Hbad.out]; rfl, hS1⟩
      | true =>
        have e2'' : (x.dst != C.id) = false := e2'
        iterate 12 (first
          | (refine wpS_take (v := ?_) rfl rfl (by rfl) ?_ ?_; rotate_left; (intro W hW; have hf := FF.out W hW; go_split_ands; go_simp; try with_reducible rfl); try simp only [Act.put, List.setIfInBounds_toArray, List.set_cons_zero, List.set_cons_succ])
          | (refine wpS_skip rfl rfl (by rfl) ?_; try simp only [Act.put, List.setIfInBounds_toArray, List.set_cons_zero, List.set_cons_succ]))
        refine wpS_take rfl rfl (by rfl) (fun W hW => ld_whole _ _ rfl _ _ rfl _ _ (Hrg.out W hW) Tryz.underlying78 rfl (by kernel_rfl)) ?_
        try simp only [Act.put, List.setIfInBounds_toArray, List.set_cons_zero, List.set_cons_succ]
        refine wpS_one rfl (by rfl) (fun K hK => ?_)
        go_simp
        go_at_call 65
        refine (Hah.out _ hS1).mono ?_
        rintro e w2 ⟨rfl, hb2⟩
        have hS2 : Below W0.heap.size W0 w2 := hS1.trans (hb2.mono hS1.size)
        clear hb2
        refine hK (fun W => Below W0.heap.size W0 W) _ _ (fun _ h => h) hS2 ?_
        clear hK K
        try simp only [Act.put, List.setIfInBounds_toArray, List.set_cons_zero, List.set_cons_succ]
        refine wpS_last rfl (by rfl) (fun K hK => ?_)
        go_simp
        refine hK _ _ ?_
        clear hK K
        try simp only [Act.put, List.setIfInBounds_toArray, List.set_cons_zero, List.set_cons_succ]
        refine wpS_nil ?_
        go_wp2_with fail
        go_meet
        case rel => exact ⟨by rw [Hbad.out]; cases q3 <;> rfl, hS2⟩
  case rest =>
    obtain ⟨rfl, hb1⟩ := hcut
    obtain ⟨w1, hw1⟩ : ∃ w1, w1 = wc := ⟨_, rfl⟩
    rw [← hw1] at hb1 ⊢
    clear hw1
    have B1 := Lib.hid hb1
    clear hb1
    cases bad with
    | true =>
      go_wp2_with fail
      go_ret
      rw [step_eq, HB.out, if_pos rfl]
      exact out_none rfl ((CTo.refl H.out.1).below (H.out.2.2.2.2.2.1.trans (B1.out.mono H.out.2.2.2.2.2.1.size)))
    | false =>
      obtain ⟨i1, i2, i3⟩ := bnd.out rfl
      have hmay : x.ms.may = true := HK.out.2.1.trans i1
      have M := Lib.hid hmay
      clear i1 i2 i3 hmay
      obtain ⟨newq, hnq⟩ : ∃ q, decide (C.s.tm < x.term) = q := ⟨_, rfl⟩
      have enw : C.newer x.ms = if newq = true then C.newerOf x.term else C := by rw [newer_eq, ← hnq]; rfl
      have NQ := Lib.hid enw
      clear enw
      go_upto_region 3 with (fail)
      refine wp_region_S 7 (fun W => Below W0.heap.size W0 W) (.take 0 (.take 1 (.take 2 (.take 3 (.take 4 (.take 5 (.take 6 (.one 7 (.nil))))))))) (by kernel_rfl) B1.out.drew (fun _ _ _ _ h => h) (fun hS => ?_)
      repeat (first
        | (refine wpS_take (v := ?_) rfl rfl (by rfl) ?_ ?_; rotate_left; (intro W hW; have hf := FF.out W hW; go_split_ands; go_simp; try with_reducible rfl); try simp only [Act.put, List.setIfInBounds_toArray, List.set_cons_zero, List.set_cons_succ])
        | (refine wpS_skip rfl rfl (by rfl) ?_; try simp only [Act.put, List.setIfInBounds_toArray, List.set_cons_zero, List.set_cons_succ]))
      refine wpS_last rfl (by rfl) (fun K hK => ?_)
      go_simp
      refine hK _ _ ?_
      clear hK K
      try simp only [Act.put, List.setIfInBounds_toArray, List.set_cons_zero, List.set_cons_succ]
      refine wpS_nil ?_
      go_upto_if 34 with (fail)
      go_cut [] (fun W => ∃ V' U' m', CTo fb w p V U (C.newer x.ms) W V' U' m' ∧ Bx W w.heap.size x.cells ∧ (∀ b, U' b → U b) ∧ Env fb W)
      case first =>
        have hb := H.out.2.2.2.2.2.1.trans (hS.mono H.out.2.2.2.2.2.1.size)
        have hc := H.out.1.below hb
        have hbx := H.out.2.2.2.2.1.below hS
        have hen := H.out.2.2.1.new hb
        have X := Lib.hid (And.intro hb (And.intro hc (And.intro hbx hen)))
        obtain ⟨c11, c0, c7, d0, d2, d3⟩ := FF.out w1 B1.out
        clear hb hc hbx hen hS
        cases newq with
        | false =>
          go_wp2_with fail
          go_meet
          case rel => exact ⟨V, U, m, by rw [NQ.out]; exact (CTo.refl H.out.1).below X.out.1, X.out.2.2.1, fun _ h => h, X.out.2.2.2⟩
        | true =>
          have f0 : w1.frozen? ⟨p, 0, none⟩ = false := X.out.2.1.bx.f 0
          have f1 : w1.frozen? ⟨p, 1, none⟩ = false := X.out.2.1.bx.f 1
          have c1 : w1.cell? ⟨p, 1, none⟩ = some (.int .i64 m.s.vt) := X.out.2.1.bx.c 1
          have hbb : Bx ((w1.drew.setCell ⟨p, 0, none⟩ (.int .i64 x.term)).setCell ⟨p, 1, none⟩ (.int .i64 0)) p ((m.tv x.term 0).cells { C with s := { C.s with tm := x.term, vt := 0 } }) := (X.out.2.1.bx.set 0 _).set 1 _
          have gb : w1.drew.grownBy ((w1.drew.setCell ⟨p, 0, none⟩ (.int .i64 x.term)).setCell ⟨p, 1, none⟩ (.int .i64 0)) (some p) := gb_trans (gb_set _ p 0 _) (gb_set _ p 1 _)
          have hto := X.out.2.1.tv (tm := x.term) (vt := 0) hbb gb rfl rfl rfl rfl
          have hfo := follow_any 0 hto.cx
          have T := Lib.hid (And.intro hto gb)
          have Hfo := Lib.hid hfo
          clear hbb gb hto hfo
          go_wp2_with fail
          refine Hfo.out.mono ?_
          rintro e w5 ⟨rfl, t5⟩
          have T5 := Lib.hid t5
          clear t5 c11 c0 c7 d0 d2 d3 f0 f1 c1
          go_wp2_with fail
          go_meet
          case rel =>
            have hto := (T.out.1.trans T5.out).up X.out.1
            have hne : w.heap.size ≠ p := by have := H.out.1.bx.lt; omega
            have b1 := X.out.2.2.1.keep (T.out.2.block _ X.out.2.2.1.lt fun e => hne (Option.some.inj e))
            have hvw : ¬ V w.heap.size := fun hv => by have := H.out.1.ul _ (H.out.1.vu _ hv); omega
            refine ⟨V, U, m.tv x.term 0, by rw [NQ.out]; exact hto, b1.keep (T5.out.kept.block _ b1.lt hvw), fun _ h => h, ?_⟩
            exact (X.out.2.2.2.kept T.out.1.kept H.out.1.vf).kept T5.out.kept H.out.1.vf
      case rest =>
        obtain ⟨V1, U1, m1, hto, hbx, hus, hen⟩ := hcut
        obtain ⟨w2, hw2⟩ : ∃ w2, w2 = wc := ⟨_, rfl⟩
        rw [← hw2] at hto hbx hen ⊢
        clear hw2 hnq
        obtain ⟨C1, hC1⟩ : ∃ C1, C.newer x.ms = C1 := ⟨_, rfl⟩
        rw [hC1] at hto
        have hx1 : x.At w2 (fun b => ¬ U1 b) := hto.msg (fun b hb => H.out.1.vu b hb) H.out.2.2.2.1
        have TT := Lib.hid (And.intro hto (And.intro hbx (And.intro hen hx1)))
        obtain ⟨d0, d1, d2, d3, d4, d5, d6, d7, d8, d9, d10, d11⟩ := Mr.c12 hbx
        have k2 := K2.out M.out
        have k3 := K3.out M.out
        have k5 := K5.out M.out
        have k6 := K6.out M.out
        rw [hC1] at k2 k3 k5 k6
        rw [VV.out] at k2 k3 k5 k6
        unfold mcell at k2 k3 k5 k6
        have hr := Mr.rng hbx
        unfold mcell at hr
        have KK := Lib.hid (And.intro k2 (And.intro k3 (And.intro k5 k6)))
        have HR := Lib.hid hr
        have hvt := fun (hk : x.kind = 1) => vote_any x draw hto.cx (k := k) (by rw [← hC1]; exact H.out.2.1.newer M.out)
        rw [VV.out] at hvt
        unfold mcell at hvt
        have HV := Lib.hid hvt
        have hmk := HK.out.2.2 M.out
        have HMK := Lib.hid hmk
        clear k2 k3 k5 k6 hr hto hbx hen hx1 hus hvt d1 d2 d4 d5 d6 d7 d8 d9 d10 d11 hmk NQ
        have hks : x.kind = 1 ∨ x.kind = 2 ∨ x.kind = 3 ∨ x.kind = 5 ∨ (x.kind = 4 ∨ x.kind = 6) := by have := HMK.out; omega
        rcases hks with hk | hk | hk | hk | hk
        · have g1 : (x.kind == 1) = true := by rw [hk]; rfl
          have Hk := Lib.hid hk
          clear hk
          go_upto_region 8 with (fail)
          refine wp_region_lit ?_
          refine BigFrame.wpList_want (by rfl) (fun K hK => ?_)
          go_simp
          refine hK _ _ ?_
          clear hK K
          try simp only [Act.put, List.setIfInBounds_toArray, List.set_cons_zero, List.set_cons_succ]
          refine wpList_load_mid rfl _ _ rfl _ _ rfl _ _ HR.out Tryz.underlying78 rfl (by kernel_rfl) ?_
          go_wp2_with fail
          refine (HV.out Hk.out).mono ?_
          intro e w5 h5
          have h5 := OutPost.up TT.out.1 h5
          obtain ⟨A5, n5, c5, X5, V5, U5, m5, rfl, r5⟩ := h5
          have R5 := Lib.hid r5
          clear r5
          go_wp2_with fail
          go_ret
          rw [step_eq, HB.out, if_neg (by decide), if_pos (show x.ms.kind = 1 from Hk.out), hC1]
          exact ⟨A5, n5, c5, X5, V5, U5, m5, rfl, R5.out⟩
        · have g1 : (x.kind == 1) = false := by rw [hk]; rfl
          have g2 : (x.kind == 2) = true := by rw [hk]; rfl
          have Hk := Lib.hid hk
          clear hk
          go_upto_region 10 with (fail)
          refine wp_region_lit ?_
          refine BigFrame.wpList_want (by rfl) (fun K hK => ?_)
          go_simp
          refine hK _ _ ?_
          clear hK K
          try simp only [Act.put, List.setIfInBounds_toArray, List.set_cons_zero, List.set_cons_succ]
          refine wpList_load_mid rfl _ _ rfl _ _ rfl _ _ HR.out Tryz.underlying78 rfl (by kernel_rfl) ?_
          go_wp2_with fail
          refine (KK.out.1 Hk.out w2 V1 U1 m1 TT.out.1.cx TT.out.2.2.1 TT.out.2.2.2).mono ?_
          intro e w5 h5
          have h5 := OutPost.up TT.out.1 h5
          obtain ⟨A5, n5, c5, X5, V5, U5, m5, rfl, r5⟩ := h5
          have R5 := Lib.hid r5
          clear r5
          go_wp2_with fail
          go_ret
          rw [step_eq, HB.out, if_neg (by decide), if_neg (show ¬ x.ms.kind = 1 from fun h => by rw [show x.ms.kind = x.kind from rfl, Hk.out] at h; omega), if_pos (show x.ms.kind = 2 from Hk.out), hC1]
          exact ⟨A5, n5, c5, X5, V5, U5, m5, rfl, R5.out⟩
        · have g1 : (x.kind == 1) = false := by rw [hk]; rfl
          have g2 : (x.kind == 2) = false := by rw [hk]; rfl
          have g3 : (x.kind == 3) = true := by rw [hk]; rfl
          have Hk := Lib.hid hk
          clear hk
          go_upto_region 12 with (fail)
          refine wp_region_lit ?_
          refine BigFrame.wpList_want (by rfl) (fun K hK => ?_)
          go_simp
          refine hK _ _ ?_
          clear hK K
          try simp only [Act.put, List.setIfInBounds_toArray, List.set_cons_zero, List.set_cons_succ]
          refine wpList_load_mid rfl _ _ rfl _ _ rfl _ _ HR.out Tryz.underlying78 rfl (by kernel_rfl) ?_
          go_wp2_with fail
          refine (KK.out.2.1 Hk.out w2 V1 U1 m1 TT.out.1.cx TT.out.2.2.1 TT.out.2.2.2).mono ?_
          intro e w5 h5
          have h5 := OutPost.up TT.out.1 h5
          obtain ⟨A5, n5, c5, X5, V5, U5, m5, rfl, r5⟩ := h5
          have R5 := Lib.hid r5
          clear r5
          go_wp2_with fail
          go_ret
          rw [step_eq, HB.out, if_neg (by decide), if_neg (show ¬ x.ms.kind = 1 from fun h => by rw [show x.ms.kind = x.kind from rfl, Hk.out] at h; omega), if_neg (show ¬ x.ms.kind = 2 from fun h => by rw [show x.ms.kind = x.kind from rfl, Hk.out] at h; omega), if_pos (show x.ms.kind = 3 from Hk.out), hC1]
          exact ⟨A5, n5, c5, X5, V5, U5, m5, rfl, R5.out⟩
        · have g1 : (x.kind == 1) = false := by rw [hk]; rfl
          have g2 : (x.kind == 2) = false := by rw [hk]; rfl
          have g3 : (x.kind == 3) = false := by rw [hk]; rfl
          have g5 : (x.kind == 5) = true := by rw [hk]; rfl
          have Hk := Lib.hid hk
          clear hk
          go_upto_region 14 with (fail)
          refine wp_region_lit ?_
          refine BigFrame.wpList_want (by rfl) (fun K hK => ?_)
          go_simp
          refine hK _ _ ?_
          clear hK K
          try simp only [Act.put, List.setIfInBounds_toArray, List.set_cons_zero, List.set_cons_succ]
          refine wpList_load_mid rfl _ _ rfl _ _ rfl _ _ HR.out Tryz.underlying78 rfl (by kernel_rfl) ?_
          go_wp2_with fail
          refine (KK.out.2.2.1 Hk.out w2 V1 U1 m1 TT.out.1.cx TT.out.2.2.1 TT.out.2.2.2).mono ?_
          intro e w5 h5
          have h5 := OutPost.up TT.out.1 h5
          obtain ⟨A5, n5, c5, X5, V5, U5, m5, rfl, r5⟩ := h5
          have R5 := Lib.hid r5
          clear r5
          go_wp2_with fail
          go_ret
          rw [step_eq, HB.out, if_neg (by decide), if_neg (show ¬ x.ms.kind = 1 from fun h => by rw [show x.ms.kind = x.kind from rfl, Hk.out] at h; omega), if_neg (show ¬ x.ms.kind = 2 from fun h => by rw [show x.ms.kind = x.kind from rfl, Hk.out] at h; omega), if_neg (show ¬ x.ms.kind = 3 from fun h => by rw [show x.ms.kind = x.kind from rfl, Hk.out] at h; omega), if_pos (show x.ms.kind = 5 from Hk.out), hC1]
          exact ⟨A5, n5, c5, X5, V5, U5, m5, rfl, R5.out⟩
        · have g1 : (x.kind == 1) = false := by rcases hk with h | h <;> rw [h] <;> rfl
          have g2 : (x.kind == 2) = false := by rcases hk with h | h <;> rw [h] <;> rfl
          have g3 : (x.kind == 3) = false := by rcases hk with h | h <;> rw [h] <;> rfl
          have g5 : (x.kind == 5) = false := by rcases hk with h | h <;> rw [h] <;> rfl
          have r7 : w2.cell? ⟨p, 7, none⟩ = some (.int .i64 C1.role) := TT.out.1.cx.bx.c 7
          have r0 : w2.cell? ⟨p, 0, none⟩ = some (.int .i64 C1.s.tm) := by rw [← TT.out.1.cx.s_eq.1]; exact TT.out.1.cx.bx.c 0
          have d3 := (Mr.c12 TT.out.2.1).2.2.2.1
          have Hk := Lib.hid hk
          have ekk : Hid (C.step x.ms draw j = if C1.role ≠ 2 ∨ x.ms.term ≠ C1.s.tm then (C1, []) else C1.told x.ms) := Lib.hid (by
            rw [step_eq, HB.out, if_neg (by decide), if_neg (show ¬ x.ms.kind = 1 from (by omega : ¬ x.kind = 1)), if_neg (show ¬ x.ms.kind = 2 from (by omega : ¬ x.kind = 2)), if_neg (show ¬ x.ms.kind = 3 from (by omega : ¬ x.kind = 3)), if_neg (show ¬ x.ms.kind = 5 from (by omega : ¬ x.kind = 5)), hC1])
          clear hk
          go_upto_region 15 with (fail)
          by_cases hr : C1.role = 2
          · have hr1 : (C1.role != 2) = false := by rw [hr]; rfl
            by_cases ht : x.term = C1.s.tm
            · have ht1 : (x.term != C1.s.tm) = false := by rw [ht]; simp
              have EE := Lib.hid (ekk.out.trans (if_neg (fun h => h.elim (fun h1 => h1 hr) (fun h1 => h1 ht))))
              clear hr ht
              go_region
              all_goals
                go_upto_region 17 with (fail)
                refine wp_region_lit ?_
                refine BigFrame.wpList_want (by rfl) (fun K hK => ?_)
                go_simp
                refine hK _ _ ?_
                clear hK K
                try simp only [Act.put, List.setIfInBounds_toArray, List.set_cons_zero, List.set_cons_succ]
                refine wpList_load_mid rfl _ _ rfl _ _ rfl _ _ (show w2.drew.rangeAt w.heap.size 0 _ from HR.out) Tryz.underlying78 rfl (by kernel_rfl) ?_
                have hcx := TT.out.1.cx.drew
                have htl := KK.out.2.2.2 Hk.out w2.drew V1 U1 m1 hcx TT.out.2.2.1.drew (TT.out.2.2.2.below (Below.refl _ _).drew)
                have Htl := Lib.hid htl
                clear hcx htl
                go_wp2_with fail
                refine Htl.out.mono ?_
                intro e w5 h5
                have h5 := OutPost.up (TT.out.1.below (Below.refl _ _).drew) h5
                obtain ⟨A5, n5, c5, X5, V5, U5, m5, rfl, r5⟩ := h5
                have R5 := Lib.hid r5
                clear r5
                go_wp2_with fail
                go_ret
                rw [EE.out]
                exact ⟨A5, n5, c5, X5, V5, U5, m5, rfl, R5.out⟩
            · have ht1 : (x.term != C1.s.tm) = true := by simpa using ht
              have EE := Lib.hid (ekk.out.trans (if_pos (.inr ht)))
              clear hr ht
              go_region
              all_goals
                go_wp2_with fail
                go_ret
                rw [EE.out]
                exact out_none rfl (TT.out.1.below (Below.refl _ _).drew)
          · have hr1 : (C1.role != 2) = true := by simpa using hr
            have EE := Lib.hid (ekk.out.trans (if_pos (.inl hr)))
            clear hr
            go_region
            all_goals
              go_wp2_with fail
              go_ret
              rw [EE.out]
              exact out_none rfl (TT.out.1.below (Below.refl _ _).drew)
end Go.Proofs.YtmhaahcbmdhinaaGreatDoor

namespace Go.Proofs.YtmhaahcbmdhinaaGreatDoor
set_option linter.unusedVariables false
set_option linter.unusedSimpArgs false
/-- Votes that were granted (term, whom), and what the member remembers of them. -/
def Grants (C : Cr) (G : List (Int × Int)) : Prop := ∀ g ∈ G, 1 ≤ g.2 ∧ g.1 ≤ C.s.tm ∧ (g.1 = C.s.tm → C.s.vt = g.2)
theorem newer_s (C : Cr) (x : Ms) : (C.newer x).s.b = C.s.b ∧ (C.newer x).s.t = C.s.t ∧ (C.newer x).s.l = C.s.l ∧ (C.newer x).id = C.id := by
  unfold Cr.newer
  split <;> exact ⟨rfl, rfl, rfl, rfl⟩
theorem Grants.newer {C : Cr} {G : List (Int × Int)} (h : Grants C G) (x : Ms) : Grants (C.newer x) G := by
  unfold Cr.newer
  split
  · rename_i hlt
    intro g hg
    obtain ⟨h1, h2, h3⟩ := h g hg
    exact ⟨h1, by show g.1 ≤ x.term; omega, fun e => by have e : g.1 = x.term := e; omega⟩
  · exact h
/-- One that stands is told at most one thing; what is granted is granted to nobody else in that term, and to none that is behind. -/
theorem vote_step {C : Cr} {G : List (Int × Int)} (h : Grants C G) (x : Ms) (j : Int) (hk : x.kind = 1) :
    ((C.step x 0 j).2 = [] ∧ Grants (C.step x 0 j).1 G) ∨ ∃ M : Ms, (C.step x 0 j).2 = [M] ∧ M.kind = 2 ∧
      ((M.ok = false ∧ Grants (C.step x 0 j).1 G) ∨ (M.ok = true ∧ ¬ x.lt < lstB C.s.t C.s.l ∧ ¬ (x.lt = lstB C.s.t C.s.l ∧ x.ix < lstA C.s.b C.s.l) ∧ M.term = x.term ∧ M.dst = x.fr ∧ (∀ g ∈ G, g.1 = x.term → g.2 = x.fr) ∧ Grants (C.step x 0 j).1 (G ++ [(x.term, x.fr)]))) := by
  rw [step_eq]
  by_cases hd : C.deaf x = true
  · rw [if_pos hd]
    exact .inl ⟨rfl, h⟩
  · rw [if_neg hd, if_pos hk]
    have hd' : (!x.may || (!(x.dst == C.id) || x.ahead)) = false := by
      have : C.deaf x = false := by simpa using hd
      exact this
    have hm : x.may = true := (deaf_no hd'.symm).1
    have hfr := (Ms.may_in hm).2.1
    obtain ⟨e1, e2, e3, e4⟩ := newer_s C x
    have hn := h.newer x
    obtain ⟨D, hD⟩ : ∃ D, C.newer x = D := ⟨_, rfl⟩
    rw [hD] at e1 e2 e3 e4 hn ⊢
    rw [vote_eq]
    right
    refine ⟨_, rfl, rfl, ?_⟩
    cases hok : D.voteOk x with
    | false => exact .inl ⟨rfl, by rw [if_neg (by decide)]; exact hn⟩
    | true =>
      right
      rw [if_pos rfl]
      unfold Cr.voteOk at hok
      rw [Bool.and_eq_true, Bool.and_eq_true, Bool.or_eq_true, beq_iff_eq, beq_iff_eq, beq_iff_eq] at hok
      obtain ⟨⟨h1, h2⟩, h3⟩ := hok
      unfold newB at h3
      rw [Bool.and_eq_true, Bool.or_eq_true, Bool.and_eq_true, decide_eq_true_eq, decide_eq_true_eq, decide_eq_true_eq, e1, e2, e3] at h3
      have hg : ∀ g ∈ G, g.1 = x.term → g.2 = x.fr := fun g hg e => by
        obtain ⟨k1, k2, k3⟩ := hn g hg
        have k4 := k3 (by omega)
        omega
      refine ⟨rfl, by omega, by omega, h1.symm, rfl, hg, fun g hg' => ?_⟩
      rcases List.mem_append.1 hg' with hg' | hg'
      · obtain ⟨k1, k2, k3⟩ := hn g hg'
        exact ⟨k1, k2, fun e => (hg g hg' (by have e : g.1 = D.s.tm := e; omega)).symm⟩
      · rw [List.mem_singleton.1 hg']
        exact ⟨hfr.1, by show x.term ≤ D.s.tm; omega, fun _ => rfl⟩
theorem Cr.Ok.stepVote {C : Cr} {k : Nat} (h : C.Ok k) (x : Ms) (draw j : Int) (hk : x.kind = 1) : (C.step x draw j).1.Ok k := by
  rw [step_eq]
  by_cases hd : C.deaf x = true
  · rw [if_pos hd]
    exact h
  · rw [if_neg hd, if_pos hk]
    have hd' : (!x.may || (!(x.dst == C.id) || x.ahead)) = false := by
      have : C.deaf x = false := by simpa using hd
      exact this
    have hm : x.may = true := (deaf_no hd'.symm).1
    exact (h.newer hm).vote hm draw
end Go.Proofs.YtmhaahcbmdhinaaGreatDoor

namespace Go.Proofs.YtmhaahcbmdhinaaGreatDoor
set_option linter.unusedVariables false
set_option linter.unusedSimpArgs false
/-- A log that one member alone has laid in its first term. -/
def LonL (l : List En) : Prop := l.length ≤ 1000 ∧ ∀ (i : Nat) (e : En), l[i]? = some e → e.a = (i : Int) + 1 ∧ e.b = 1 ∧ (e.c = 0 ∨ e.c = 1) ∧ e.d.length ≤ 4096
/-- One member alone: it waits. -/
def lone0 (span wait g : Int) : Cr := ⟨⟨0, 0, 0, 0, [], [1], []⟩, 0, 0, 0, 0, 1, span, g, wait, [], fun _ => none, 0, []⟩
/-- It leads, and has committed all of its log. -/
def lone1 (span wait : Int) (l : List En) (r : Int) : Cr := ⟨⟨1, 1, 0, 0, l, [1], []⟩, 2, 1, l.length, r, 1, span, 0, wait, [1], fun _ => none, 0, []⟩
theorem memE_none {l : List En} (h : ∀ e ∈ l, e.c ≠ 2) (u : Int) : memE l u = none := by
  unfold memE
  rw [List.find?_eq_none]
  intro e he
  have := h e (List.mem_reverse.1 he)
  simp [this]
theorem LonL.no2 {l : List En} (h : LonL l) : ∀ e ∈ l, e.c ≠ 2 := fun e he => by
  obtain ⟨i, hi⟩ := List.mem_iff_getElem?.1 he
  obtain ⟨_, _, h3, _⟩ := h.2 i e hi
  omega
theorem LonL.nil : LonL [] := ⟨by simp, fun i e h => by simp at h⟩
theorem LonL.snoc {l : List En} (h : LonL l) {kd : Int} {d : List UInt8} (hk : kd = 0 ∨ kd = 1) (hd : d.length ≤ 4096) (hl : l.length + 1 ≤ 1000) : LonL (l ++ [⟨(l.length : Int) + 1, 1, kd, d⟩]) := by
  refine ⟨by simp; omega, fun i e hi => ?_⟩
  rw [List.getElem?_append] at hi
  split at hi
  · exact h.2 i e hi
  · rename_i hlt
    have : i - l.length = 0 := by
      rcases Nat.eq_zero_or_pos (i - l.length) with h0 | h0
      · exact h0
      · rw [List.getElem?_eq_none (by simp; omega)] at hi; cases hi
    rw [this] at hi
    simp at hi
    subst hi
    exact ⟨by show (l.length : Int) + 1 = i + 1; omega, rfl, hk, hd⟩
theorem lon_lstA {l : List En} (h : LonL l) : lstA 0 l = l.length := by
  unfold lstA
  cases hl : l.getLast? with
  | none =>
    have : l = [] := List.getLast?_eq_none_iff.1 hl
    subst this
    rfl
  | some e =>
    rw [List.getLast?_eq_getElem?] at hl
    obtain ⟨h1, _⟩ := h.2 _ _ hl
    have : l.length - 1 < l.length := (List.getElem?_eq_some_iff.1 hl).1
    simp only [Option.map_some, Option.getD_some]
    omega
theorem lon_lstB {l : List En} (h : LonL l) (h0 : l ≠ []) : lstB 0 l = 1 := by
  unfold lstB
  cases hl : l.getLast? with
  | none => exact absurd (List.getLast?_eq_none_iff.1 hl) h0
  | some e =>
    rw [List.getLast?_eq_getElem?] at hl
    exact (h.2 _ _ hl).2.1
theorem lon_lstB_le {l : List En} (h : LonL l) : lstB 0 l ≤ 1 := by
  by_cases h0 : l = []
  · subst h0; simp [lstB]
  · rw [lon_lstB h h0]; omega
theorem lon_rgt {l : List En} (h : LonL l) : ∀ (k : Nat) (tm : Int), tm ≤ 1 → rgt 0 tm k (l.drop k) = true := by
  intro k
  generalize hm : l.length - k = m
  induction m generalizing k with
  | zero =>
    intro tm _
    rw [List.drop_eq_nil_of_le (by omega)]
    rfl
  | succ m ih =>
    intro tm ht
    have hk : k < l.length := by omega
    rw [List.drop_eq_getElem_cons hk, rgt, Bool.and_eq_true]
    obtain ⟨h1, h2, h3, h4⟩ := h.2 k l[k] (List.getElem?_eq_getElem hk)
    have hl := h.1
    refine ⟨?_, ?_⟩
    · unfold okE
      simp only [Bool.and_eq_true, decide_eq_true_eq]
      omega
    · rw [h2]
      exact ih (k + 1) (by omega) 1 (by omega)
theorem lon_lmay {l : List En} (h : LonL l) : lmay 0 0 l = true := by
  have h1 := lon_rgt h 0 0 (by omega)
  rw [List.drop_zero] at h1
  exact lmay_iff.2 ⟨.inl ⟨rfl, rfl⟩, by have := h.1; omega, h1⟩
theorem lon_addL {l : List En} (h : LonL l) {kd : Int} {d : List UInt8} (hk : kd = 0 ∨ kd = 1) : addL 0 0 l 1 kd d = if 4096 < d.length then (2, []) else (0, l ++ [⟨(l.length : Int) + 1, 1, kd, d⟩]) := by
  unfold addL
  have h1 := lon_lstA h
  have h2 := lon_lstB_le h
  have h3 := h.1
  rw [if_neg (by rw [h1]; omega)]
  split
  · rfl
  · rw [if_neg (by omega), h1]
section
variable {span wait r : Int} {l : List En}
theorem lon_members0 (C : Cr) (hc : C.s.cf = [1]) (hl : ∀ e ∈ C.s.l, e.c ≠ 2) : C.members = [1] := by
  unfold Cr.members Cr.upto
  rw [memE_none hl]
  exact hc
theorem lon_others (C : Cr) (hc : C.s.cf = [1]) (hl : ∀ e ∈ C.s.l, e.c ≠ 2) (hi : C.id = 1) : C.others = [] := by
  unfold Cr.others
  rw [lon_members0 C hc hl, hi]
  rfl
theorem lon_sendAll (C : Cr) (hc : C.s.cf = [1]) (hl : ∀ e ∈ C.s.l, e.c ≠ 2) (hi : C.id = 1) : C.sendAll = (C, []) := by
  unfold Cr.sendAll
  rw [lon_others C hc hl hi]
  rfl
theorem lon_agr (f : Int → Int) : agr [1] f = f 1 := by
  unfold agr
  rw [if_pos (by decide)]
  simp
theorem lon_reach (C : Cr) (hi : C.id = 1) (hp : C.peers = fun _ => none) (h0 : 0 ≤ C.last) : C.reach 1 = C.last := by
  unfold Cr.reach
  rw [hi, hp]
  simp
  omega
theorem lon_has : hasC [1] 1 = true := by decide
/-- What it has is committed at once. -/
theorem lon_advance (C : Cr) (hc : C.s.cf = [1]) (hl : LonL C.s.l) (hi : C.id = 1) (hp : C.peers = fun _ => none) (hb : C.s.b = 0) (ht : C.s.t = 0) (htm : C.s.tm = 1) (h0 : C.s.l ≠ []) (hlt : C.commit < C.s.l.length) : C.advance = ({ C with commit := C.s.l.length }, []) := by
  have hla : C.last = C.s.l.length := by unfold Cr.last; rw [hb]; exact lon_lstA hl
  unfold Cr.advance
  dsimp only
  have hlen : 0 < C.s.l.length := List.length_pos_iff.2 h0
  rw [lon_members0 C hc hl.no2, lon_agr, lon_reach C hi hp (by omega), hla]
  have hte : C.termOf C.s.l.length = (0, C.s.tm) := by
    unfold Cr.termOf
    rw [hb, ht, compL_yes (lon_lmay hl)]
    unfold termL
    rw [lon_lstA hl, if_neg (by omega), if_neg (by omega), if_neg (by omega)]
    have hg : C.s.l[(((C.s.l.length : Nat) : Int) - 0 - 1).toNat]? = some C.s.l[C.s.l.length - 1] := by
      rw [show (((C.s.l.length : Nat) : Int) - 0 - 1).toNat = C.s.l.length - 1 by omega]
      exact List.getElem?_eq_getElem _
    rw [hg]
    have := (hl.2 _ _ (List.getElem?_eq_getElem (show C.s.l.length - 1 < C.s.l.length by omega))).2.1
    simp only [Option.map_some, Option.getD_some]
    rw [this, htm]
  rw [if_neg (by rw [hte]; simp; exact hlt), if_neg (by rw [hi, lon_has]; simp)]
  exact lon_sendAll { C with commit := C.s.l.length } hc hl.no2 hi
theorem lon_tell (C : Cr) (hc : C.s.cf = [1]) (hl : LonL C.s.l) (hi : C.id = 1) (hp : C.peers = fun _ => none) (hb : C.s.b = 0) (ht : C.s.t = 0) (htm : C.s.tm = 1) (h0 : C.s.l ≠ []) (hlt : C.commit < C.s.l.length) : C.tell = ({ C with commit := C.s.l.length }, []) := by
  unfold Cr.tell
  rw [lon_sendAll C hc hl.no2 hi]
  dsimp only
  rw [lon_advance C hc hl hi hp hb ht htm h0 hlt]
  rfl
theorem lone_tick0 {g : Int} (h : g + 1 < wait) (d : Int) : (lone0 span wait g).tick d = (lone0 span wait (g + 1), []) := by
  unfold Cr.tick
  dsimp only
  rw [if_neg (by show ¬ (0 : Int) = 2; decide), if_pos (by exact h)]
  rfl
theorem lone_lead {g : Int} (h : ¬ g + 1 < wait) (d : Int) : (lone0 span wait g).tick d = (lone1 span (drw span d) [⟨1, 1, 0, []⟩] 0, []) := by
  have hn : ∀ e ∈ ([] : List En), e.c ≠ 2 := by simp
  unfold Cr.tick
  dsimp only
  rw [if_neg (by show ¬ (0 : Int) = 2; decide), if_neg (by exact h)]
  have hm : Cr.may { lone0 span wait g with gone := 0 } = true := by
    unfold Cr.may
    rw [lon_members0 _ rfl hn]
    rfl
  rw [if_neg (by rw [show Cr.may { ({ lone0 span wait g with gone := (lone0 span wait g).gone + 1 } : Cr) with gone := 0 } = true from hm]; simp; show (0 : Int) < 1099511627776; decide)]
  unfold Cr.stand
  dsimp only
  have hm2 : ∀ C : Cr, C.s.cf = [1] → C.s.l = [] → C.members = [1] := fun C h1 h2 => lon_members0 C h1 (by rw [h2]; simp)
  rw [hm2 _ rfl rfl, if_pos (by show quor [1] [1] = true; decide)]
  unfold Cr.lead
  dsimp only
  rw [lon_others _ rfl hn rfl]
  have ha := lon_addL LonL.nil (kd := 0) (d := []) (.inl rfl)
  rw [if_neg (by simp)] at ha
  have hb : addL 0 0 [] ((0 : Int) + 1) 0 [] = (0, [⟨(0 : Int) + 1, 1, 0, []⟩]) := ha
  refine (if_pos ?_).trans ?_
  · exact congrArg Prod.fst hb
  · have h1 : LonL [⟨(0 : Int) + 1, 1, 0, []⟩] := by
      have := LonL.nil.snoc (kd := 0) (d := []) (.inl rfl) (by simp) (by simp)
      exact this
    refine (lon_tell _ rfl ?_ rfl rfl rfl rfl rfl ?_ ?_).trans ?_
    · exact (congrArg Prod.snd hb).symm ▸ h1
    · show (addL 0 0 [] ((0 : Int) + 1) 0 []).2 ≠ []
      rw [hb]; simp
    · show (0 : Int) < ((addL 0 0 [] ((0 : Int) + 1) 0 []).2.length : Int)
      rw [hb]; simp
    · refine Prod.ext ?_ rfl
      show Cr.mk (St.mk _ _ _ _ (addL 0 0 [] ((0 : Int) + 1) 0 []).2 _ _) _ _ ((addL 0 0 [] ((0 : Int) + 1) 0 []).2.length : Int) _ _ _ _ _ _ _ _ _ = _
      rw [hb]
      rfl
theorem lone_propose (hl : LonL l) (hn : l.length + 1 ≤ 1000) (h0 : l ≠ []) (d : List UInt8) : (lone1 span wait l r).propose 1 d = if 4096 < d.length then (lone1 span wait l r, 0, [], 2) else (lone1 span wait (l ++ [⟨(l.length : Int) + 1, 1, 1, d⟩]) r, (l.length : Int) + 1, [], 0) := by
  have ha := lon_addL hl (kd := 1) (d := d) (.inr rfl)
  unfold Cr.propose
  dsimp only
  rw [if_neg (by show ¬ (2 : Int) ≠ 2; simp), if_neg (by rintro ⟨h, _⟩; revert h; decide)]
  rw [show addL (lone1 span wait l r).s.b (lone1 span wait l r).s.t (lone1 span wait l r).s.l (lone1 span wait l r).s.tm 1 d = _ from ha]
  by_cases hd : 4096 < d.length
  · rw [if_pos hd, if_pos hd, if_pos (by decide)]
  · rw [if_neg hd, if_neg hd, if_neg (by simp)]
    have hs := hl.snoc (kd := 1) (d := d) (.inr rfl) (by omega) hn
    have ht := lon_tell ((lone1 span wait l r).withLog (l ++ [(⟨(l.length : Int) + 1, 1, 1, d⟩ : En)])) rfl hs rfl rfl rfl rfl rfl (by show l ++ _ ≠ []; simp) (by show (l.length : Int) < ((l ++ [(⟨(l.length : Int) + 1, 1, 1, d⟩ : En)]).length : Int); simp; omega)
    dsimp only
    rw [ht]
    have hlast : ((lone1 span wait l r).withLog (l ++ [⟨(l.length : Int) + 1, 1, 1, d⟩])).last = (l.length : Int) + 1 := by
      have := lon_lstA hs
      rw [List.length_append] at this
      exact this
    rw [hlast]
    rfl
end
end Go.Proofs.YtmhaahcbmdhinaaGreatDoor

namespace Go.Proofs.YtmhaahcbmdhinaaGreatDoor
open Go.RowKit
set_option maxRecDepth 100000
set_option linter.unusedVariables false
set_option linter.unusedSimpArgs false
def Cr.new (id span draw : Int) (s : St) : Cr := ⟨s, 0, 0, s.b, 0, id, span, 0, drw span draw, [], fun _ => none, 0, []⟩
theorem Cr.Ok.new {id span draw : Int} {s : St} (hm : s.may = true) (hsn : s.sn.length ≤ 1048576) (h1 : 1 ≤ id ∧ id ≤ 64) (h2 : 2 ≤ span ∧ span ≤ 1000) : (Cr.new id span draw s).Ok 1 := by
  obtain ⟨_, _, h3, _⟩ := St.may_iff hm
  refine ⟨hm, hsn, h1, h2, by show (0 : Int) ≤ 0 ∧ (0 : Int) ≤ 2; decide, by show (0 : Int) ≤ 0 ∧ (0 : Int) ≤ 64; decide, ⟨h3.1, h3.2.1⟩, by show (0 : Int) ≤ 0 ∧ (0 : Int) ≤ ((1 : Nat) : Int); decide, by show (0 : Int) ≤ 0 ∧ (0 : Int) ≤ 2000; decide, drw_in h2, ⟨by show (0 : Nat) ≤ 1; decide, fun v hv => by cases hv⟩, (fun _ _ h => by cases h), by show I64 0; unfold I64; omega, by show (0 : Nat) ≤ _; omega, by decide⟩
def newMb (p : Nat) (s : Sv) : Mb := ⟨s, none, 0, 0, p, none, 0, 0⟩
theorem CX.ofNew {fb p : Nat} {W w' : World} {id span draw : Int} {s : St} {s' : Sv} (hfb : fb ≤ W.heap.size) (hb : Bx w' (p + 1) (coreC s' 0 0 s.b 0 id span 0 (drw span draw) (.slice none 0 0) p 0 (.slice none 0 0))) (ha : s'.At w' (fun b => W.heap.size ≤ b ∧ b < p)) (hs : s'.st = s) (hp : W.heap.size ≤ p) (hm : w'.heap[p]? = some (.map #[] 0)) :
    CX fb w' (p + 1) (fun b => b = p ∨ b = p + 1) (fun b => b = p ∨ b = p + 1) (Cr.new id span draw s) (newMb p s') := by
  have hpl := hb.lt
  refine ⟨hb, Pm.made_at hm, .inr rfl, .inl rfl, by show p ≠ p + 1; omega, (fun g hg => by cases hg), fun b h => h, fun b h => by rcases h with rfl | rfl <;> omega, fun b h => by rcases h with rfl | rfl <;> omega, ⟨rfl, .inl ⟨rfl, rfl⟩⟩, ha.mono fun b hb h => by have := hb.2; rcases h with rfl | rfl <;> omega, hs, Rd.none_, ⟨Nat.le_refl _, by simp [newMb, maxLen]⟩⟩
end Go.Proofs.YtmhaahcbmdhinaaGreatDoor

