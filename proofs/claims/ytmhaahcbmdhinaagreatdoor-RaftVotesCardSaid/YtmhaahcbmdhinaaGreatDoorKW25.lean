/- Walks: (msg.Msg).may, msg.Check. (Printed by mkmck.py.)
   A member whose term and vote have turned, in memory; what is told in one message.
   Walk: (*raft.Core).vote. (Printed by mkvote.py.)
   Walks: raft.ahead: whether a message speaks of terms above its own.
   Walks: the document's May of a message, and 'in'. (Printed by mkmayr.py.) -/
import Derived.Test.YtmhaahcbmdhinaaGreatDoorKW24
import Derived.Test.YtmhaahcbmdhinaaGreatDoorKW16
import Derived.Deep.MidRow
import Derived.Test.YtmhaahcbmdhinaaGreatDoorKW12
namespace Go.Proofs.YtmhaahcbmdhinaaGreatDoor
open Go.RowKit
set_option maxRecDepth 100000
set_option linter.unusedVariables false
set_option linter.unusedSimpArgs false
theorem Mr.c12 {W : World} {g : Nat} {x : Mr} (b : Bx W g x.cells) : W.cell? ⟨g, 0, none⟩ = some (.int .i64 x.kind) ∧ W.cell? ⟨g, 1, none⟩ = some (.int .i64 x.fr) ∧ W.cell? ⟨g, 2, none⟩ = some (.int .i64 x.dst) ∧ W.cell? ⟨g, 3, none⟩ = some (.int .i64 x.term) ∧ W.cell? ⟨g, 4, none⟩ = some (.int .i64 x.ix) ∧ W.cell? ⟨g, 5, none⟩ = some (.int .i64 x.lt) ∧ W.cell? ⟨g, 6, none⟩ = some (.int .i64 x.cm) ∧ W.cell? ⟨g, 7, none⟩ = some (.int .i64 x.rd) ∧ W.cell? ⟨g, 8, none⟩ = some (.bool x.ok) ∧ W.cell? ⟨g, 9, none⟩ = some (.int .i64 x.off) ∧ W.cell? ⟨g, 10, none⟩ = some (.slice x.D x.nd x.cd) ∧ W.cell? ⟨g, 11, none⟩ = some (.slice x.E x.ne x.ce) :=
  ⟨b.c 0, b.c 1, b.c 2, b.c 3, b.c 4, b.c 5, b.c 6, b.c 7, b.c 8, b.c 9, b.c 10, b.c 11⟩
theorem Mr.rng {W : World} {g : Nat} {x : Mr} (h : Bx W g (mcell x).toArray) : W.rangeAt g 0 (mcell x) := fun j v hv => by
  rw [Nat.zero_add, h.c j]
  simpa using hv
theorem may_of (m : Ms) : m.may = (winB 1 6 [m.kind] && winB 1 64 [m.fr, m.dst] && !(m.fr == m.dst) && winB 1 1099511627776 [m.term] && winB 0 1099511627776 [m.ix, m.lt, m.cm, m.rd, m.off] && decide (m.data.length ≤ 4096) && decide (m.es.length ≤ 64) && evenL m.es) := by
  have e : decide (m.fr = m.dst) = (m.fr == m.dst) := by
    by_cases h : m.fr = m.dst
    · rw [decide_eq_true h, beq_iff_eq.2 h]
    · rw [decide_eq_false h]; exact (by simpa using h : (m.fr == m.dst) = false).symm
  unfold Ms.may winB evenL
  rw [e]
  simp only [List.all_cons, List.all_nil, Bool.and_true, Bool.and_assoc]
set_option maxHeartbeats 6400000 in
theorem mmay_any (x : Mr) (w : World) {ok : Nat → Prop} (h : x.At w ok) (hn : x.ne ≤ 1000000) :
    Calls Tryz.prog 123 #[x.val] w (BoolPost w x.ms.may) := by
  obtain ⟨W0, hW0⟩ : ∃ W0, W0 = w.alloc (.cells x.cells 78) := ⟨_, rfl⟩
  have b0 : Bx W0 w.heap.size x.cells := by subst hW0; exact Bx.new _ _ _ rfl
  have hbe : Below w.heap.size w W0 := by subst hW0; exact (Below.refl _ _).alloc (Nat.le_refl _) _
  have l1 := h.d.blen
  have l2 := h.e.flen ecell_len (by omega)
  have hF : ∀ W, Below W0.heap.size W0 W → Bx W w.heap.size x.cells ∧ Below w.heap.size w W := fun W hb => ⟨b0.below hb, hbe.trans (hb.mono hbe.size)⟩
  have hcon := fun W (hb : Below W0.heap.size W0 W) => ocon_any x.E x.ne x.ce x.L W ((h.below (hF W hb).2).e) ((h.below (hF W hb).2).dat) hn
  have h1 := fun W => within_lit 1 6 [x.kind] W 1 #[.int .i64 x.kind] rfl rfl (by omega) 3
  have h2 := fun W => within_lit 1 64 [x.fr, x.dst] W 2 #[.int .i64 x.fr, .int .i64 x.dst] rfl rfl (by omega) 3
  have h4 := fun W => within_lit 1 1099511627776 [x.term] W 1 #[.int .i64 x.term] rfl rfl (by omega) 3
  have h5 := fun W => within_lit 0 1099511627776 [x.ix, x.lt, x.cm, x.rd, x.off] W 5 #[.int .i64 x.ix, .int .i64 x.lt, .int .i64 x.cm, .int .i64 x.rd, .int .i64 x.off] rfl rfl (by omega) 3
  obtain ⟨q, hq⟩ : ∃ q, x.ms.may = q := ⟨_, rfl⟩
  have hq' : q = (winB 1 6 [x.kind] && winB 1 64 [x.fr, x.dst] && !(x.fr == x.dst) && winB 1 1099511627776 [x.term] && winB 0 1099511627776 [x.ix, x.lt, x.cm, x.rd, x.off] && decide ((x.nd : Int) ≤ 4096) && decide ((x.ne : Int) ≤ 64) && evenL (x.L.map en)) := by
    rw [← hq, may_of]
    show (_ && _ && _ && _ && _ && decide (x.data.length ≤ 4096) && decide ((x.L.map en).length ≤ 64) && _) = _
    have g6 : decide (x.nd ≤ 4096) = decide ((x.nd : Int) ≤ 4096) := decide_eq_decide.2 (by omega)
    have g7 : decide (x.ne ≤ 64) = decide ((x.ne : Int) ≤ 64) := decide_eq_decide.2 (by omega)
    rw [List.length_map, l1, l2, g6, g7]
    rfl
  rw [hq]
  obtain ⟨p1, e1⟩ : ∃ p, winB 1 6 [x.kind] = p := ⟨_, rfl⟩
  obtain ⟨p2, e2⟩ : ∃ p, winB 1 64 [x.fr, x.dst] = p := ⟨_, rfl⟩
  obtain ⟨p3, e3⟩ : ∃ p, (x.fr == x.dst) = p := ⟨_, rfl⟩
  obtain ⟨p4, e4⟩ : ∃ p, winB 1 1099511627776 [x.term] = p := ⟨_, rfl⟩
  obtain ⟨p5, e5⟩ : ∃ p, winB 0 1099511627776 [x.ix, x.lt, x.cm, x.rd, x.off] = p := ⟨_, rfl⟩
  obtain ⟨p6, e6⟩ : ∃ p, decide ((x.nd : Int) ≤ 4096) = p := ⟨_, rfl⟩
  obtain ⟨p7, e7⟩ : ∃ p, decide ((x.ne : Int) ≤ 64) = p := ⟨_, rfl⟩
  obtain ⟨p8, e8⟩ : ∃ p, evenL (x.L.map en) = p := ⟨_, rfl⟩
  simp only [e1] at h1
  simp only [e2] at h2
  simp only [e4] at h4
  simp only [e5] at h5
  simp only [e8] at hcon
  rw [e1, e2, e3, e4, e5, e6, e7, e8] at hq'
  obtain ⟨c0, c1, c2, c3, c4, c5, c6, c7, c8, c9, c10, c11⟩ := Mr.c12 b0
  have HW := Lib.hid hW0
  have H1 := Lib.hid h1
  have H2 := Lib.hid h2
  have H4 := Lib.hid h4
  have H5 := Lib.hid h5
  have H8 := Lib.hid hcon
  have Q := Lib.hid hq'
  have F := Lib.hid hF
  clear hW0 b0 hbe h1 h2 h4 h5 hcon hq hq' e1 e2 e4 e5 e8 l1 l2 h hF hn
  unfold Mr.val
  go_enter Tryz.func123, Tryz.ntmps123
  go_upto_region 1 with (fail)
  have HW' := HW.out
  unfold Mr.cells at HW'
  rw [← HW']
  clear HW'
  cases p1 with
  | false =>
    go_wp2_with fail
    refine (H1.out W0).mono ?_
    rintro e w1 ⟨rfl, hb⟩
    have K1 := Lib.hid (hb)
    clear hb
    go_wp2_with fail
    go_ret
    exact ⟨ret_bool (by rw [Q.out]; rfl), (F.out _ K1.out).2⟩
  | true =>
    go_wp2_with fail
    refine (H1.out W0).mono ?_
    rintro e w1 ⟨rfl, hb⟩
    have K1 := Lib.hid (hb)
    clear hb
    clear c0 c1 c2 c3 c4 c5 c6 c7 c8 c9 c10 c11
    obtain ⟨c0, c1, c2, c3, c4, c5, c6, c7, c8, c9, c10, c11⟩ := Mr.c12 (F.out _ K1.out).1
    cases p2 with
    | false =>
      go_wp2_with fail
      refine (H2.out w1).mono ?_
      rintro e w2 ⟨rfl, hb⟩
      have K2 := Lib.hid (K1.out.trans (hb.mono K1.out.size))
      clear hb
      go_wp2_with fail
      go_ret
      exact ⟨ret_bool (by rw [Q.out]; rfl), (F.out _ K2.out).2⟩
    | true =>
      go_wp2_with fail
      refine (H2.out w1).mono ?_
      rintro e w2 ⟨rfl, hb⟩
      have K2 := Lib.hid (K1.out.trans (hb.mono K1.out.size))
      clear hb
      clear c0 c1 c2 c3 c4 c5 c6 c7 c8 c9 c10 c11
      obtain ⟨c0, c1, c2, c3, c4, c5, c6, c7, c8, c9, c10, c11⟩ := Mr.c12 (F.out _ K2.out).1
      cases p3 with
      | true =>
        go_wp2_with fail
        go_ret
        exact ⟨ret_bool (by rw [Q.out]; rfl), (F.out _ K2.out).2⟩
      | false =>
        cases p4 with
        | false =>
          go_wp2_with fail
          refine (H4.out w2).mono ?_
          rintro e w3 ⟨rfl, hb⟩
          have K3 := Lib.hid (K2.out.trans (hb.mono K2.out.size))
          clear hb
          go_wp2_with fail
          go_ret
          exact ⟨ret_bool (by rw [Q.out]; rfl), (F.out _ K3.out).2⟩
        | true =>
          go_wp2_with fail
          refine (H4.out w2).mono ?_
          rintro e w3 ⟨rfl, hb⟩
          have K3 := Lib.hid (K2.out.trans (hb.mono K2.out.size))
          clear hb
          clear c0 c1 c2 c3 c4 c5 c6 c7 c8 c9 c10 c11
          obtain ⟨c0, c1, c2, c3, c4, c5, c6, c7, c8, c9, c10, c11⟩ := Mr.c12 (F.out _ K3.out).1
          cases p5 with
          | false =>
            go_wp2_with fail
            refine (H5.out w3).mono ?_
            rintro e w4 ⟨rfl, hb⟩
            have K4 := Lib.hid (K3.out.trans (hb.mono K3.out.size))
            clear hb
            go_wp2_with fail
            go_ret
            exact ⟨ret_bool (by rw [Q.out]; rfl), (F.out _ K4.out).2⟩
          | true =>
            go_wp2_with fail
            refine (H5.out w3).mono ?_
            rintro e w4 ⟨rfl, hb⟩
            have K4 := Lib.hid (K3.out.trans (hb.mono K3.out.size))
            clear hb
            clear c0 c1 c2 c3 c4 c5 c6 c7 c8 c9 c10 c11
            obtain ⟨c0, c1, c2, c3, c4, c5, c6, c7, c8, c9, c10, c11⟩ := Mr.c12 (F.out _ K4.out).1
            cases p6 with
            | false =>
              go_wp2_with fail
              go_ret
              exact ⟨ret_bool (by rw [Q.out]; rfl), (F.out _ K4.out).2⟩
            | true =>
              cases p7 with
              | false =>
                go_wp2_with fail
                go_ret
                exact ⟨ret_bool (by rw [Q.out]; rfl), (F.out _ K4.out).2⟩
              | true =>
                go_wp2_with fail
                refine (H8.out w4 K4.out).mono ?_
                rintro e w5 ⟨rfl, hb⟩
                have K5 := Lib.hid (K4.out.trans (hb.mono K4.out.size))
                clear hb
                cases p8 with
                | false =>
                  go_wp2_with fail
                  go_ret
                  exact ⟨ret_bool (by rw [Q.out]; rfl), (F.out _ K5.out).2⟩
                | true =>
                  go_wp2_with fail
                  go_ret
                  exact ⟨ret_bool (by rw [Q.out]; rfl), (F.out _ K5.out).2⟩
theorem check_ms (x : Mr) (w : World) {ok : Nat → Prop} (h : x.At w ok) (hn : x.ne ≤ 1000000) :
    Calls Tryz.prog 64 #[x.val] w (fun e w' => e = .returned (errE (if x.ms.may = true then 0 else 1)) ∧ Below w.heap.size w w') := by
  obtain ⟨W0, hW0⟩ : ∃ W0, W0 = w.alloc (.cells x.cells 78) := ⟨_, rfl⟩
  have b0 : Bx W0 w.heap.size x.cells := by subst hW0; exact Bx.new _ _ _ rfl
  have hbe : Below w.heap.size w W0 := by subst hW0; exact (Below.refl _ _).alloc (Nat.le_refl _) _
  have hm := mmay_any x W0 (h.below hbe) hn
  have hrg : W0.rangeAt w.heap.size 0 (mcell x) := Mr.rng b0
  obtain ⟨q, hq⟩ : ∃ q, x.ms.may = q := ⟨_, rfl⟩
  rw [hq] at hm ⊢
  have HW := Lib.hid hW0
  have Hm := Lib.hid hm
  have Hrg := Lib.hid hrg
  have B := Lib.hid hbe
  clear hW0 b0 hbe hm hrg h hn hq
  unfold Mr.val at Hm ⊢
  unfold mcell at Hrg
  go_enter Tryz.func64, Tryz.ntmps64
  go_upto_region 1 with (fail)
  have HW' := HW.out
  unfold Mr.cells at HW'
  rw [← HW']
  clear HW'
  refine wp_region_lit ?_
  refine wpList_load_mid rfl _ _ rfl _ _ rfl _ _ Hrg.out Tryz.underlying78 rfl rfl ?_
  cases q with
  | false =>
    go_wp2_with fail
    refine Hm.out.mono ?_
    rintro e w1 ⟨rfl, hb1⟩
    have K := Lib.hid (B.out.trans (hb1.mono B.out.size))
    clear hb1
    go_wp2_with fail
    go_ret
    exact ⟨rfl, K.out⟩
  | true =>
    go_wp2_with fail
    refine Hm.out.mono ?_
    rintro e w1 ⟨rfl, hb1⟩
    have K := Lib.hid (B.out.trans (hb1.mono B.out.size))
    clear hb1
    go_wp2_with fail
    go_ret
    exact ⟨rfl, K.out⟩
end Go.Proofs.YtmhaahcbmdhinaaGreatDoor

namespace Go.Proofs.YtmhaahcbmdhinaaGreatDoor
open Go.RowKit
set_option maxRecDepth 100000
set_option linter.unusedVariables false
set_option linter.unusedSimpArgs false
def Mb.tv (m : Mb) (tm vt : Int) : Mb := { m with s := { m.s with tm := tm, vt := vt } }
section
variable {fb p : Nat} {W w w' W2 : World} {V U V' U' : Nat → Prop} {C C' : Cr} {m m' : Mb}
theorem CX.tv (h : CX fb w p V U C m) {tm vt : Int} (hb : Bx w' p ((m.tv tm vt).cells C')) (hk : w.grownBy w' (some p)) (h1 : C'.s = { C.s with tm := tm, vt := vt }) (h2 : C'.peers = C.peers) (h3 : C'.votes = C.votes) (h4 : C'.hv = C.hv) :
    CTo fb w p V U C' w' V U (m.tv tm vt) := by
  have hp : U p := h.vu p h.vp
  have hbl : ∀ b, b < w.heap.size → b ≠ p → w'.heap[b]? = w.heap[b]? := fun b hl hb => hk.block b hl fun e => hb (by injection e)
  refine ⟨⟨hb, ?_, h.vp, h.vq, h.qp, h.vv, h.vu, h.vf, fun b hb => Nat.lt_of_lt_of_le (h.ul b hb) hk.size, ?_, ?_, ?_, ?_, h.hk⟩, fun _ h => .inl h, fun _ h => h, fun _ h => .inl h, (Kept.refl V w).grown hk fun b e => by injection e with e; subst e; exact h.vp⟩
  · rw [h2]; exact h.pm.keep (hbl _ h.pm.lt h.qp)
  · rw [h3]
    refine ⟨h.vt.1, ?_⟩
    rcases h.vt.2 with h1 | ⟨g, cap, cur, h1, h2, h3, h4⟩
    · exact .inl h1
    · refine .inr ⟨g, cap, cur, h1, h2, ?_, h4⟩
      rw [hbl g (Array.getElem?_eq_some_iff.1 h3).1 (h.vv g (by injection h1 with h1; rw [h1]; rfl)).2.1, h3]
  · have ha := h.at_.keep (W' := w') fun b hb hl => hbl b hl (fun e => hb (e ▸ hp))
    exact ⟨ha.l, ha.d, ha.cf, ha.sn, ha.k1, ha.k2, ha.k3⟩
  · rw [h1, ← h.st]
    rfl
  · rw [h4]; exact h.hv.keep fun b hb hl => hbl b hl (fun e => hb (e ▸ hp))
theorem Rm.one {x : Mr} {B : Nat} (hB : B ≤ W.heap.size) (hx : x.At W (B ≤ ·)) : Rm (W.alloc (.cells x.cells 78)) B (some ⟨W.heap.size, 0, none⟩) 1 1 [x] := by
  refine ⟨?_, fun y hy => ?_⟩
  · have h := own_mono (own_lit1 (W := W) (e := 78) (cs := x.cells) (k := 12) rfl) hB
    have e : flat mcell [x] = x.cells.toList := by
      show mcell x ++ [] = _
      rw [List.append_nil]
      rfl
    rw [e]
    exact h
  · obtain rfl := List.mem_singleton.1 hy
    refine (hx.lt.below ((Below.refl _ _).alloc (Nat.le_refl _) _)).mono fun b hb => ⟨hb.1, fun e => ?_⟩
    injection e with e
    have := hb.2
    have e : W.heap.size = b := e
    omega
theorem out_one {x : Mr} (hw : w.heap.size ≤ W.heap.size) (h : CTo fb w p V U C' W V' U' m') (hx : x.At W (w.heap.size ≤ ·)) (hu : x.At W (fun b => ¬ U' b)) :
    OutPost fb w p V U (C', [x.ms]) (.returned (.slice (some ⟨W.heap.size, 0, none⟩) 1 1)) (W.alloc (.cells x.cells 78)) :=
  ⟨_, 1, 1, [x], V', U', m', rfl, Rm.one hw hx, rfl, (fun y hy => by
    obtain rfl := List.mem_singleton.1 hy
    exact hu.below ((Below.refl _ _).alloc (Nat.le_refl _) _)), h.below ((Below.refl _ _).alloc (Nat.le_refl _) _)⟩
theorem out_none {e : Ending} (he : e = .returned (.slice none 0 0)) (h : CTo fb w p V U C' W V' U' m') : OutPost fb w p V U (C', []) e W :=
  ⟨none, 0, 0, [], V', U', m', he, Rm.nil _ _, rfl, (fun y hy => by cases hy), h⟩
/-- A message that bears nothing. -/
theorem Mr.At.bare (W : World) (ok : Nat → Prop) (k f d t ix lt cm rd : Int) (o : Bool) (off : Int) : (⟨k, f, d, t, ix, lt, cm, rd, o, off, none, 0, 0, [], none, 0, 0, []⟩ : Mr).At W ok :=
  ⟨Rd.none_, ⟨Nat.le_refl _, by simp [maxLen]⟩, Rd.none_, (fun y hy => by cases hy), ⟨Nat.le_refl _, by simp [maxLen]⟩⟩
end
end Go.Proofs.YtmhaahcbmdhinaaGreatDoor

namespace Go.Proofs.YtmhaahcbmdhinaaGreatDoor
open Go.RowKit
set_option maxRecDepth 100000
set_option linter.unusedVariables false
set_option linter.unusedSimpArgs false
def Cr.voteOk (C : Cr) (x : Ms) : Bool := (x.term == C.s.tm) && ((C.s.vt == 0) || (C.s.vt == x.fr)) && newB C.s.b C.s.t C.s.l x.ix x.lt
theorem beq_dec (a b : Int) : decide (a = b) = (a == b) := by
  by_cases h : a = b
  · rw [decide_eq_true h, beq_iff_eq.2 h]
  · rw [decide_eq_false h]; exact (by simpa using h : (a == b) = false).symm
theorem vote_eq (C : Cr) (x : Ms) (draw : Int) : C.vote x draw = (if C.voteOk x = true then ({ C with s := { C.s with vt := x.fr } } : Cr).draws draw else C, [{ C.say 2 x.fr with ok := C.voteOk x }]) := by
  unfold Cr.vote Cr.voteOk
  simp only [beq_dec]
set_option maxHeartbeats 6400000 in
theorem vote_any {fb p : Nat} {w : World} {V U : Nat → Prop} {C : Cr} {m : Mb} {k : Nat} (x : Mr) (draw : Int) (h : CX fb w p V U C m) (ho : C.Ok k) :
    Calls Tryz.prog 67 #[.pointer (some ⟨p, 0, none⟩), x.val, .int .i64 draw] w (OutPost fb w p V U (C.vote x.ms draw)) := by
  obtain ⟨W0, hW0⟩ : ∃ W0, W0 = w.alloc (.cells x.cells 78) := ⟨_, rfl⟩
  have b0 : Bx W0 w.heap.size x.cells := by subst hW0; exact Bx.new _ _ _ rfl
  have hbe : Below w.heap.size w W0 := by subst hW0; exact (Below.refl _ _).alloc (Nat.le_refl _) _
  have hz0 : W0.heap.size = w.heap.size + 1 := by subst hW0; simp
  have hf := h.fit ho
  have hsay := say_any 2 x.fr (h.below hbe)
  obtain ⟨k1, k2, k3, k4, k5, k6, k7⟩ := h.s_eq
  have hnew := fun W (hb : Below W0.heap.size W0 W) => newer_any m.s.b m.s.t x.ix x.lt m.s.A m.s.n m.s.c m.s.L W ((h.below hbe).below hb).at_.l (h.at_.wel hf) hf.z.1
  have eN : newB m.s.b m.s.t (m.s.L.map en) x.ix x.lt = newB C.s.b C.s.t C.s.l x.ix x.lt := by rw [k3, k4, k5]
  rw [eN] at hnew
  obtain ⟨okv, hok⟩ : ∃ q, C.voteOk x.ms = q := ⟨_, rfl⟩
  have hok' : okv = ((x.term == C.s.tm) && ((C.s.vt == 0) || (C.s.vt == x.fr)) && newB C.s.b C.s.t C.s.l x.ix x.lt) := by rw [← hok]; rfl
  have HO := Lib.hid hok
  obtain ⟨qt, e1⟩ : ∃ q, (x.term == C.s.tm) = q := ⟨_, rfl⟩
  obtain ⟨v0, e2⟩ : ∃ q, (C.s.vt == 0) = q := ⟨_, rfl⟩
  obtain ⟨v1, e3⟩ : ∃ q, (C.s.vt == x.fr) = q := ⟨_, rfl⟩
  obtain ⟨qn, e4⟩ : ∃ q, newB C.s.b C.s.t C.s.l x.ix x.lt = q := ⟨_, rfl⟩
  rw [e1, e2, e3, e4] at hok'
  rw [e4] at hnew
  obtain ⟨free, hfree⟩ : ∃ f, (v0 || v1) = f := ⟨_, rfl⟩
  rw [hfree] at hok'
  have HW := Lib.hid hW0
  have H := Lib.hid (And.intro h (And.intro ho (And.intro b0 (And.intro hbe hz0))))
  have Hsay := Lib.hid hsay
  have Hnew := Lib.hid hnew
  have Hok := Lib.hid hok'
  have Hfr := Lib.hid hfree
  have HK := Lib.hid (And.intro k1 (And.intro k2 (And.intro k3 k4)))
  have P0 : ∀ W, Below w.heap.size w W → W.cell? ⟨p, 0, none⟩ = some (.int .i64 C.s.tm) ∧ W.cell? ⟨p, 1, none⟩ = some (.int .i64 C.s.vt) ∧ W.cell? ⟨p, 2, none⟩ = some (.int .i64 m.s.b) ∧ W.cell? ⟨p, 3, none⟩ = some (.int .i64 m.s.t) ∧ W.cell? ⟨p, 4, none⟩ = some (.slice m.s.A m.s.n m.s.c) := fun W hb => by
    have hx := (h.below hb).bx
    refine ⟨?_, ?_, hx.c 2, hx.c 3, hx.c 4⟩
    · rw [← k1]; exact hx.c 0
    · rw [← k2]; exact hx.c 1
  have HP := Lib.hid P0
  clear hW0 b0 hbe hz0 hf hsay k1 k2 k3 k4 k5 k6 k7 hnew eN hok hok' e4 h ho hfree P0
  unfold Mr.val
  go_enter Tryz.func67, Tryz.ntmps67
  obtain ⟨c0, c1, c2, c3, c4, c5, c6, c7, c8, c9, c10, c11⟩ := Mr.c12 H.out.2.2.1
  go_upto_region 1 with (fail)
  have HW' := HW.out
  unfold Mr.cells at HW'
  rw [← HW']
  clear HW'
  go_wp2_with fail
  refine Hsay.out.mono ?_
  rintro e w1 ⟨rfl, hb1⟩
  unfold Mr.val Cr.sayM
  dsimp only
  go_upto_region 2 with (fail)
  obtain ⟨W2, hW2⟩ : ∃ W2, W2 = w1.alloc (.cells #[.int .i64 2, .int .i64 C.id, .int .i64 x.fr, .int .i64 C.s.tm, .int .i64 0, .int .i64 0, .int .i64 0, .int .i64 0, .bool false, .int .i64 0, .slice none 0 0, .slice none 0 0] 78) := ⟨_, rfl⟩
  have z2 : Bx W2 w1.heap.size #[.int .i64 2, .int .i64 C.id, .int .i64 x.fr, .int .i64 C.s.tm, .int .i64 0, .int .i64 0, .int .i64 0, .int .i64 0, .bool false, .int .i64 0, .slice none 0 0, .slice none 0 0] := by subst hW2; exact Bx.new w1 _ 78 rfl
  have b12 : Below w1.heap.size w1 W2 := by subst hW2; exact (Below.refl _ _).alloc (Nat.le_refl _) _
  have b02 : Below W0.heap.size W0 W2 := hb1.trans (b12.mono hb1.size)
  rw [← hW2]
  have K2 := Lib.hid (And.intro z2 (And.intro b02 hb1.size))
  clear hW2 z2 b12 b02 hb1 c0 c1 c2 c3 c4 c5 c6 c7 c8 c9 c10 c11
  have hpz : p < w.heap.size := H.out.1.bx.lt
  have F2 : Hid (∀ W, Below w1.heap.size W2 W → (W.cell? ⟨p, 0, none⟩ = some (.int .i64 C.s.tm) ∧ W.cell? ⟨p, 1, none⟩ = some (.int .i64 C.s.vt) ∧ W.cell? ⟨p, 2, none⟩ = some (.int .i64 m.s.b) ∧ W.cell? ⟨p, 3, none⟩ = some (.int .i64 m.s.t) ∧ W.cell? ⟨p, 4, none⟩ = some (.slice m.s.A m.s.n m.s.c)) ∧ W.cell? ⟨w.heap.size, 1, none⟩ = some (.int .i64 x.fr) ∧ W.cell? ⟨w.heap.size, 3, none⟩ = some (.int .i64 x.term) ∧ W.cell? ⟨w.heap.size, 4, none⟩ = some (.int .i64 x.ix) ∧ W.cell? ⟨w.heap.size, 5, none⟩ = some (.int .i64 x.lt)) := Lib.hid fun W hb => by
    have hb0 : Below W0.heap.size W0 W := K2.out.2.1.trans (hb.mono K2.out.2.2)
    have hx := H.out.2.2.1.below hb0
    exact ⟨HP.out W (H.out.2.2.2.1.trans (hb0.mono H.out.2.2.2.1.size)), hx.c 1, hx.c 3, hx.c 4, hx.c 5⟩
  go_cut [8] (fun s8 W => s8 = .bool free ∧ Below W2.heap.size W2 W)
  case first =>
    obtain ⟨⟨p0, p1, p2, p3, p4⟩, q1, q3, q4, q5⟩ := F2.out W2 (Below.refl _ _)
    cases v0 with
    | true =>
      go_region
      all_goals
        go_wp2_with fail
        go_meet
        case rel => exact ⟨by rw [← Hfr.out]; rfl, (Below.refl _ _).drew⟩
    | false =>
      go_region
      all_goals
        go_wp2_with fail
        go_meet
        case rel => exact ⟨by rw [← Hfr.out]; cases v1 <;> rfl, (Below.refl _ _).drew⟩
  case rest =>
    obtain ⟨rfl, hb3⟩ := hcut
    have B3 := Lib.hid hb3
    clear hb3 e2 e3
    obtain ⟨⟨p0, p1, p2, p3, p4⟩, q1, q3, q4, q5⟩ := F2.out wc (B3.out.mono (by have := K2.out.1.lt; omega))
    obtain ⟨w3, hw3⟩ : ∃ w3, w3 = wc := ⟨_, rfl⟩
    rw [← hw3] at B3 p0 p1 p2 p3 p4 q1 q3 q4 q5 ⊢
    clear hw3
    have z3 := K2.out.1.below B3.out
    have F3 : Hid (∀ W, Below w1.heap.size w3 W → (W.cell? ⟨p, 0, none⟩ = some (.int .i64 C.s.tm) ∧ W.cell? ⟨p, 1, none⟩ = some (.int .i64 C.s.vt) ∧ W.cell? ⟨p, 2, none⟩ = some (.int .i64 m.s.b) ∧ W.cell? ⟨p, 3, none⟩ = some (.int .i64 m.s.t) ∧ W.cell? ⟨p, 4, none⟩ = some (.slice m.s.A m.s.n m.s.c)) ∧ W.cell? ⟨w.heap.size, 1, none⟩ = some (.int .i64 x.fr) ∧ W.cell? ⟨w.heap.size, 3, none⟩ = some (.int .i64 x.term) ∧ W.cell? ⟨w.heap.size, 4, none⟩ = some (.int .i64 x.ix) ∧ W.cell? ⟨w.heap.size, 5, none⟩ = some (.int .i64 x.lt)) := Lib.hid fun W hb => F2.out W ((B3.out.mono (by have := K2.out.1.lt; omega)).trans hb)
    have r8 : w3.cell? ⟨w1.heap.size, 8, none⟩ = some (.bool false) := z3.c 8
    have f8 : w3.frozen? ⟨w1.heap.size, 8, none⟩ = false := z3.f 8
    have Z3 := Lib.hid z3
    have hz3 := Lib.hid z3.lt
    clear z3 p0 p1 p2 p3 p4 q1 q3 q4 q5
    go_upto_region 3 with (fail)
    go_cut [] (fun W => ∃ w4, Below w3.heap.size w3 w4 ∧ W = w4.setCell ⟨w1.heap.size, 8, none⟩ (.bool okv))
    case first =>
      cases qt with
      | false =>
        obtain rfl : okv = false := by rw [Hok.out]; rfl
        refine wp_region_S 24 (fun W => Below w1.heap.size w3 W) (.take 0 (.take 1 (.take 2 (.take 3 (.take 4 (.take 5 (.take 6 (.take 7 (.take 8 (.take 9 (.take 10 (.take 11 (.take 12 (.take 13 (.take 14 (.take 15 (.take 16 (.take 17 (.take 18 (.take 19 (.take 20 (.one 21 (.take 22 (.take 23 (.one 24 (.nil)))))))))))))))))))))))))) (by kernel_rfl) (Below.refl _ _).drew (fun _ _ _ _ h => h) (fun hS => ?_)
        repeat (first
          | (refine wpS_take (v := ?_) rfl rfl (by rfl) ?_ ?_; rotate_left; (intro W hW; have hf := F3.out W hW; go_split_ands; go_simp; try with_reducible rfl); try simp only [Act.put, List.setIfInBounds_toArray, List.set_cons_zero, List.set_cons_succ])
          | (refine wpS_skip rfl rfl (by rfl) ?_; try simp only [Act.put, List.setIfInBounds_toArray, List.set_cons_zero, List.set_cons_succ]))
        refine wpS_pass rfl rfl (by rfl) ?_
        try simp only [Act.put, List.setIfInBounds_toArray, List.set_cons_zero, List.set_cons_succ]
        repeat (first
          | (refine wpS_take (v := ?_) rfl rfl (by rfl) ?_ ?_; rotate_left; (intro W hW; have hf := F3.out W hW; go_split_ands; go_simp; try with_reducible rfl); try simp only [Act.put, List.setIfInBounds_toArray, List.set_cons_zero, List.set_cons_succ])
          | (refine wpS_skip rfl rfl (by rfl) ?_; try simp only [Act.put, List.setIfInBounds_toArray, List.set_cons_zero, List.set_cons_succ]))
        refine wpS_one rfl (by rfl) (fun K hK => ?_)
        go_simp
        refine hK (fun W => Below w1.heap.size w3 W) _ _ (fun _ h => h) (hS.setCell (p := ⟨w1.heap.size, 8, none⟩) (Nat.le_refl _) _) ?_
        clear hK K
        try simp only [Act.put, List.setIfInBounds_toArray, List.set_cons_zero, List.set_cons_succ]
        refine wpS_nil ?_
        go_wp2_with fail
        go_meet
        case rel => exact ⟨_, (Below.refl _ _).drew, rfl⟩
      | true =>
        cases free with
        | false =>
          obtain rfl : okv = false := by rw [Hok.out]; rfl
          refine wp_region_S 24 (fun W => Below w1.heap.size w3 W) (.take 0 (.take 1 (.take 2 (.take 3 (.take 4 (.take 5 (.take 6 (.take 7 (.take 8 (.take 9 (.take 10 (.take 11 (.take 12 (.take 13 (.take 14 (.take 15 (.take 16 (.take 17 (.take 18 (.take 19 (.take 20 (.one 21 (.take 22 (.take 23 (.one 24 (.nil)))))))))))))))))))))))))) (by kernel_rfl) (Below.refl _ _).drew (fun _ _ _ _ h => h) (fun hS => ?_)
          repeat (first
            | (refine wpS_take (v := ?_) rfl rfl (by rfl) ?_ ?_; rotate_left; (intro W hW; have hf := F3.out W hW; go_split_ands; go_simp; try with_reducible rfl); try simp only [Act.put, List.setIfInBounds_toArray, List.set_cons_zero, List.set_cons_succ])
            | (refine wpS_skip rfl rfl (by rfl) ?_; try simp only [Act.put, List.setIfInBounds_toArray, List.set_cons_zero, List.set_cons_succ]))
          refine wpS_pass rfl rfl (by rfl) ?_
          try simp only [Act.put, List.setIfInBounds_toArray, List.set_cons_zero, List.set_cons_succ]
          repeat (first
            | (refine wpS_take (v := ?_) rfl rfl (by rfl) ?_ ?_; rotate_left; (intro W hW; have hf := F3.out W hW; go_split_ands; go_simp; try with_reducible rfl); try simp only [Act.put, List.setIfInBounds_toArray, List.set_cons_zero, List.set_cons_succ])
            | (refine wpS_skip rfl rfl (by rfl) ?_; try simp only [Act.put, List.setIfInBounds_toArray, List.set_cons_zero, List.set_cons_succ]))
          refine wpS_one rfl (by rfl) (fun K hK => ?_)
          go_simp
          refine hK (fun W => Below w1.heap.size w3 W) _ _ (fun _ h => h) (hS.setCell (p := ⟨w1.heap.size, 8, none⟩) (Nat.le_refl _) _) ?_
          clear hK K
          try simp only [Act.put, List.setIfInBounds_toArray, List.set_cons_zero, List.set_cons_succ]
          refine wpS_nil ?_
          go_wp2_with fail
          go_meet
          case rel => exact ⟨_, (Below.refl _ _).drew, rfl⟩
        | true =>
          obtain rfl : okv = qn := by rw [Hok.out]; rfl
          refine wp_region_S 24 (fun W => Below w1.heap.size w3 W) (.take 0 (.take 1 (.take 2 (.take 3 (.take 4 (.take 5 (.take 6 (.take 7 (.take 8 (.take 9 (.take 10 (.take 11 (.take 12 (.take 13 (.take 14 (.take 15 (.take 16 (.take 17 (.take 18 (.take 19 (.take 20 (.one 21 (.take 22 (.take 23 (.one 24 (.nil)))))))))))))))))))))))))) (by kernel_rfl) (Below.refl _ _).drew (fun _ _ _ _ h => h) (fun hS => ?_)
          repeat (first
            | (refine wpS_take (v := ?_) rfl rfl (by rfl) ?_ ?_; rotate_left; (intro W hW; have hf := F3.out W hW; go_split_ands; go_simp; try with_reducible rfl); try simp only [Act.put, List.setIfInBounds_toArray, List.set_cons_zero, List.set_cons_succ])
            | (refine wpS_skip rfl rfl (by rfl) ?_; try simp only [Act.put, List.setIfInBounds_toArray, List.set_cons_zero, List.set_cons_succ]))
          refine wpS_one rfl (by rfl) (fun K hK => ?_)
          go_simp
          go_at_call 124
          refine (Hnew.out _ (K2.out.2.1.trans (((B3.out.mono K2.out.2.1.size).trans (hS.mono K2.out.2.2))))).mono ?_
          rintro e w5 ⟨rfl, hb5⟩
          have hS5 : Below w1.heap.size w3 w5 := hS.trans (hb5.mono (by have := hz3.out; show w1.heap.size ≤ w3.drew.heap.size; simpa using (by omega : w1.heap.size ≤ w3.heap.size)))
          have H5 : Hid (Below w3.heap.size w3 w5) := Lib.hid ((Below.refl _ _).drew.trans hb5)
          have r8' : w5.cell? ⟨w1.heap.size, 8, none⟩ = some (.bool false) := (H5.out.cell (p := ⟨w1.heap.size, 8, none⟩) hz3.out).trans r8
          have f8' : w5.frozen? ⟨w1.heap.size, 8, none⟩ = false := (Z3.out.below H5.out).f 8
          clear hb5
          refine hK (fun W => Below w1.heap.size w3 W) _ _ (fun _ h => h) hS5 ?_
          clear hK K
          try simp only [Act.put, List.setIfInBounds_toArray, List.set_cons_zero, List.set_cons_succ]
          repeat (first
            | (refine wpS_take (v := ?_) rfl rfl (by rfl) ?_ ?_; rotate_left; (intro W hW; have hf := F3.out W hW; go_split_ands; go_simp; try with_reducible rfl); try simp only [Act.put, List.setIfInBounds_toArray, List.set_cons_zero, List.set_cons_succ])
            | (refine wpS_skip rfl rfl (by rfl) ?_; try simp only [Act.put, List.setIfInBounds_toArray, List.set_cons_zero, List.set_cons_succ]))
          refine wpS_one rfl (by rfl) (fun K hK => ?_)
          go_simp
          refine hK (fun W => Below w1.heap.size w3 W) _ _ (fun _ h => h) (hS5.setCell (p := ⟨w1.heap.size, 8, none⟩) (Nat.le_refl _) _) ?_
          clear hK K
          try simp only [Act.put, List.setIfInBounds_toArray, List.set_cons_zero, List.set_cons_succ]
          refine wpS_nil ?_
          go_wp2_with fail
          go_meet
          case rel => exact ⟨_, H5.out, rfl⟩
    case rest =>
      obtain ⟨w4, hb4, hwc⟩ := hcut
      have z4 : Bx wc w1.heap.size #[.int .i64 2, .int .i64 C.id, .int .i64 x.fr, .int .i64 C.s.tm, .int .i64 0, .int .i64 0, .int .i64 0, .int .i64 0, .bool okv, .int .i64 0, .slice none 0 0, .slice none 0 0] := by rw [hwc]; exact (Z3.out.below hb4).set 8 _
      have hbb : Below W0.heap.size W0 w4 := K2.out.2.1.trans ((B3.out.trans (hb4.mono B3.out.size)).mono K2.out.2.1.size)
      have hbc : Below W0.heap.size W0 wc := by rw [hwc]; exact hbb.setCell (p := ⟨w1.heap.size, 8, none⟩) K2.out.2.2 _
      have hx0 := H.out.2.2.1.below hbc
      have hbw := H.out.2.2.2.1.trans (hbc.mono H.out.2.2.2.1.size)
      have hc := H.out.1.below hbw
      have hwz : w1.heap.size ≤ wc.heap.size := Nat.le_of_lt z4.lt
      have X := Lib.hid (And.intro z4 (And.intro hbc (And.intro hbw hc)))
      obtain ⟨g0, g1, g2, g3, g4, g5, g6, g7, g8, g9, g10, g11⟩ := Bx.c12 z4
      clear hwc hbb hb4 r8 f8
      obtain ⟨w6, hw6⟩ : ∃ w6, w6 = wc := ⟨_, rfl⟩
      rw [← hw6] at X g0 g1 g2 g3 g4 g5 g6 g7 g8 g9 g10 g11 ⊢
      clear hw6 z4 hbc hx0 hbw hc hwz
      cases okv with
      | false =>
        go_wp2_with fail
        go_ret
        rw [vote_eq, HO.out, if_neg (by decide)]
        have hto := (CTo.refl H.out.1).below X.out.2.2.1
        exact out_one (x := ⟨2, C.id, x.fr, C.s.tm, 0, 0, 0, 0, false, 0, none, 0, 0, [], none, 0, 0, []⟩) X.out.2.2.1.size hto (Mr.At.bare _ _ _ _ _ _ _ _ _ _ _ _) (Mr.At.bare _ _ _ _ _ _ _ _ _ _ _ _)
      | true =>
        have p1 : w6.cell? ⟨p, 1, none⟩ = some (.int .i64 m.s.vt) := X.out.2.2.2.bx.c 1
        have fp1 := X.out.2.2.2.bx.f 1
        have q1 : w6.cell? ⟨w.heap.size, 1, none⟩ = some (.int .i64 x.fr) := (H.out.2.2.1.below X.out.2.1).c 1
        have hsp := H.out.2.1.span
        have hdr := draws_any p _ C.span draw (w6.setCell ⟨p, 1, none⟩ (.int .i64 x.fr)) (X.out.2.2.2.bx.set 1 (.int .i64 x.fr)) rfl (by show 14 < 19; omega) hsp.1 hsp.2
        have Hdr := Lib.hid hdr
        clear hdr hsp g0 g1 g2 g3 g4 g5 g6 g7 g9 g10 g11
        go_wp2_with fail
        refine Hdr.out.mono ?_
        rintro e w7 ⟨rfl, x7, gb7⟩
        have hne : w1.heap.size ≠ p := by have := H.out.1.bx.lt; have := K2.out.2.2; have := H.out.2.2.2.2; omega
        have gb : w6.grownBy w7 (some p) := gb_trans (gb_set w6 p 1 _) gb7
        have z7 : Bx w7 w1.heap.size #[.int .i64 2, .int .i64 C.id, .int .i64 x.fr, .int .i64 C.s.tm, .int .i64 0, .int .i64 0, .int .i64 0, .int .i64 0, .bool true, .int .i64 0, .slice none 0 0, .slice none 0 0] := X.out.1.keep (gb.block _ X.out.1.lt fun e => hne (Option.some.inj e))
        obtain ⟨g0, g1, g2, g3, g4, g5, g6, g7, g8', g9, g10, g11⟩ := Bx.c12 z7
        have hto : CTo fb w p V U (({ C with s := { C.s with vt := x.fr } } : Cr).draws draw) w7 V U (m.tv m.s.tm x.fr) := by
          have h1 := X.out.2.2.2.tv (tm := m.s.tm) (vt := x.fr) (C' := ({ C with s := { C.s with vt := x.fr } } : Cr).draws draw) x7 gb (by show ({ C.s with vt := x.fr } : St) = _; rw [HK.out.1]) rfl rfl rfl
          exact (h1.up X.out.2.2.1)
        have T7 := Lib.hid (And.intro hto (Nat.le_trans X.out.2.2.1.size gb.size))
        clear x7 gb7 gb z7 hto hne g8
        go_wp2_with fail
        go_ret
        rw [vote_eq, HO.out, if_pos rfl]
        exact out_one (x := ⟨2, C.id, x.fr, C.s.tm, 0, 0, 0, 0, true, 0, none, 0, 0, [], none, 0, 0, []⟩) T7.out.2 T7.out.1 (Mr.At.bare _ _ _ _ _ _ _ _ _ _ _ _) (Mr.At.bare _ _ _ _ _ _ _ _ _ _ _ _)
end Go.Proofs.YtmhaahcbmdhinaaGreatDoor

namespace Go.Proofs.YtmhaahcbmdhinaaGreatDoor
open Go.RowKit
set_option maxRecDepth 100000
set_option linter.unusedVariables false
set_option linter.unusedSimpArgs false
def highE (t : Int) (l : List Er) : Bool := l.any fun e => decide (t < e.b)
theorem ahead_of (x : Mr) : x.ms.ahead = (highE x.term x.L || decide (x.term < x.lt)) := by
  unfold Ms.ahead highE
  show (((x.L.map en).any fun e => decide (x.term < e.b)) || _) = _
  rw [List.any_map]
  rfl
set_option maxHeartbeats 3200000 in
theorem ahead_any (x : Mr) (w : World) {ok : Nat → Prop} (h : x.At w ok) (hn : x.ne ≤ 1000000) :
    Calls Tryz.prog 65 #[x.val] w (BoolPost w x.ms.ahead) := by
  obtain ⟨W0, hW0⟩ : ∃ W0, W0 = w.alloc (.cells x.cells 78) := ⟨_, rfl⟩
  have b0 : Bx W0 w.heap.size x.cells := by subst hW0; exact Bx.new _ _ _ rfl
  have hbe : Below w.heap.size w W0 := by subst hW0; exact (Below.refl _ _).alloc (Nat.le_refl _) _
  have hl := h.e.flen ecell_len (by omega)
  have hr := (h.below hbe).e
  rw [ahead_of]
  obtain ⟨c0, c1, c2, c3, c4, c5, c6, c7, c8, c9, c10, c11⟩ := Mr.c12 b0
  have HW := Lib.hid hW0
  have B := Lib.hid (And.intro b0 (And.intro hbe hl))
  obtain ⟨A, hA⟩ : ∃ A, A = x.E := ⟨_, rfl⟩
  rw [← hA] at hr c11
  have HA := Lib.hid hA
  clear hW0 b0 hbe hl h hA
  unfold Mr.val
  go_enter Tryz.func65, Tryz.ntmps65
  go_upto_region 1 with (fail)
  have HW' := HW.out
  unfold Mr.cells at HW'
  rw [← HW']
  clear HW'
  go_wp2_with fail
  go_loopg [4, 8] x.ne (fun gm s4 s8 wr => ∃ j : Nat, gm = x.ne - j ∧ j ≤ x.ne ∧ s8 = .int .i64 j ∧ highE x.term (x.L.take j) = false ∧ Below W0.heap.size W0 wr)
  case atStart => exact ⟨0, by omega, by omega, rfl, rfl, Below.refl _ _⟩
  case round =>
    obtain ⟨j, hm, hj, rfl, hno, hb⟩ := hrel
    have Hm := Lib.hid hm
    have Hno := Lib.hid hno
    have Hb := Lib.hid hb
    clear hm hno c0 c1 c2 c3 c4 c5 c6 c7 c8 c9 c10 c11
    obtain ⟨c0, c1, c2, c3, c4, c5, c6, c7, c8, c9, c10, c11⟩ := Mr.c12 (B.out.1.below Hb.out)
    rw [← HA.out] at c11
    have hlt0 : w.heap.size < wr.heap.size := World.block_lt_of_cell? wr _ c0
    by_cases hlt : j < x.ne
    · obtain ⟨b, o, y, rfl, _, hbl, hy, d0, d1, d2, d3⟩ := er_cells (hr.below hb) hlt
      have hjI : decide ((j : Int) < (x.ne : Int)) = true := decide_eq_true (by omega)
      have Hy := Lib.hid hy
      obtain ⟨W1, hW1⟩ : ∃ W1, W1 = wr.alloc (.cells #[.int .i64 y.a, .int .i64 y.b, .int .i64 y.c, .slice y.A y.n y.m] 62) := ⟨_, rfl⟩
      have b1 : Bx W1 wr.heap.size #[.int .i64 y.a, .int .i64 y.b, .int .i64 y.c, .slice y.A y.n y.m] := by subst hW1; exact Bx.new _ _ _ rfl
      have hb1 : Below wr.heap.size wr W1 := by subst hW1; exact (Below.refl _ _).alloc (Nat.le_refl _) _
      have HW1 := Lib.hid hW1
      have B1 := Lib.hid (And.intro b1 (Hb.out.trans (hb1.mono Hb.out.size)))
      clear hy hb b1 hb1 hW1
      go_upto_region 4 with (fail)
      rw [← HW1.out]
      have q1 := B1.out.1.c 1
      clear c0 c1 c2 c3 c4 c5 c6 c7 c8 c9 c10 c11 d0 d1 d2 d3
      obtain ⟨c0, c1, c2, c3, c4, c5, c6, c7, c8, c9, c10, c11⟩ := Mr.c12 (B.out.1.below B1.out.2)
      by_cases hg : x.term < y.b
      · have hgI : decide (x.term < y.b) = true := decide_eq_true hg
        have Q := Lib.hid (show (highE x.term x.L || decide (x.term < x.lt)) = true by
          have : highE x.term x.L = true := by
            unfold highE
            rw [List.any_eq_true]
            exact ⟨y, List.mem_of_getElem? Hy.out, hgI⟩
          rw [this]; rfl)
        go_wp2_with fail
        go_ret
        exact ⟨ret_bool Q.out.symm, B.out.2.1.trans (B1.out.2.mono B.out.2.1.size)⟩
      · have hgI : decide (x.term < y.b) = false := decide_eq_false hg
        have HS := Lib.hid (show highE x.term (x.L.take (j + 1)) = false by
          rw [List.take_add_one, Hy.out]
          unfold highE at Hno ⊢
          rw [List.any_append, Hno.out]
          simp [hg])
        go_wp2_with fail
        go_roundg (x.ne - (j + 1))
        case measure => have := Hm.out; omega
        case rel => exact ⟨j + 1, rfl, by omega, by go_num, HS.out, B1.out.2⟩
    · obtain rfl : j = x.ne := by omega
      have hjI : decide ((x.ne : Int) < (x.ne : Int)) = false := decide_eq_false (by omega)
      have Q := Lib.hid (show (highE x.term x.L || decide (x.term < x.lt)) = decide (x.term < x.lt) by
        have := Hno.out
        rw [List.take_of_length_le (Nat.le_of_eq B.out.2.2)] at this
        rw [this]; rfl)
      go_wp2_with fail
      go_ret
      exact ⟨ret_bool Q.out.symm, B.out.2.1.trans (Hb.out.mono B.out.2.1.size)⟩
end Go.Proofs.YtmhaahcbmdhinaaGreatDoor

namespace Go.Proofs.YtmhaahcbmdhinaaGreatDoor
open Go.RowKit
set_option maxRecDepth 100000
set_option linter.unusedVariables false
set_option linter.unusedSimpArgs false
theorem in_any (n lo hi : Int) (w : World) : Calls Tryz.prog 63 #[.int .i64 n, .int .i64 lo, .int .i64 hi] w (fun e w' => e = .returned (.bool (within1 lo hi n)) ∧ w' = w) := by
  unfold within1
  by_cases h1 : lo ≤ n
  · have h1I : decide (lo ≤ n) = true := decide_eq_true h1
    obtain ⟨q, hq⟩ : ∃ q, decide (n ≤ hi) = q := ⟨_, rfl⟩
    have Q := Lib.hid (show (decide (lo ≤ n) && decide (n ≤ hi)) = q by rw [h1I, hq]; rfl)
    clear h1
    go_enter Tryz.func63, Tryz.ntmps63
    go_wp2_with fail
    go_ret
    exact ⟨ret_bool Q.out.symm, rfl⟩
  · have h1I : decide (lo ≤ n) = false := decide_eq_false h1
    have Q := Lib.hid (show (decide (lo ≤ n) && decide (n ≤ hi)) = false by rw [h1I]; rfl)
    clear h1
    go_enter Tryz.func63, Tryz.ntmps63
    go_wp2_with fail
    go_ret
    exact ⟨ret_bool Q.out.symm, rfl⟩
theorem may_flat (m : Ms) : m.may = (within1 1 6 m.kind && (within1 1 64 m.fr && (within1 1 64 m.dst && (!(m.fr == m.dst) && (within1 1 1099511627776 m.term && (within1 0 1099511627776 m.ix && (within1 0 1099511627776 m.lt && (within1 0 1099511627776 m.cm && (within1 0 1099511627776 m.rd && (within1 0 1099511627776 m.off && (decide (m.data.length ≤ 4096) && (decide (m.es.length ≤ 64) && evenL m.es)))))))))))) := by
  rw [may_of]
  unfold winB
  simp only [List.all_cons, List.all_nil, Bool.and_true, Bool.and_assoc]
theorem odd_flat (e : En) : oddE e = (!within1 1 1099511627776 e.a || (!within1 1 1099511627776 e.b || (!within1 0 2 e.c || decide (4096 < e.d.length)))) := by
  unfold oddE
  rw [Bool.not_and, Bool.or_assoc, Bool.or_assoc]
set_option maxHeartbeats 12800000 in
theorem mayMsg_any (x : Mr) (w : World) {ok : Nat → Prop} (h : x.At w ok) (hn : x.ne ≤ 1000000) :
    Calls Tryz.prog 25 #[x.val] w (BoolPost w x.ms.may) := by
  obtain ⟨W0, hW0⟩ : ∃ W0, W0 = w.alloc (.cells x.cells 72) := ⟨_, rfl⟩
  have b0 : Bx W0 w.heap.size x.cells := by subst hW0; exact Bx.new _ _ _ rfl
  have hbe : Below w.heap.size w W0 := by subst hW0; exact (Below.refl _ _).alloc (Nat.le_refl _) _
  have l1 := h.d.blen
  have l2 := h.e.flen ecell_len (by omega)
  have hr := (h.below hbe).e
  have hd := (h.below hbe).ed
  obtain ⟨q, hq⟩ : ∃ q, x.ms.may = q := ⟨_, rfl⟩
  have hq' := hq.symm
  rw [may_flat] at hq'
  rw [hq]
  have g1 : x.ms.data.length = x.nd := l1
  have g2 : x.ms.es.length = x.ne := by show (x.L.map en).length = _; rw [List.length_map]; exact l2
  have g3 : x.ms.es = x.L.map en := rfl
  have g4 : decide (x.nd ≤ 4096) = !decide ((4096 : Int) < (x.nd : Int)) := by
    by_cases h9 : x.nd ≤ 4096
    · rw [decide_eq_true h9, decide_eq_false (by omega)]; rfl
    · rw [decide_eq_false h9, decide_eq_true (by omega)]; rfl
  have g5 : decide (x.ne ≤ 64) = !decide ((64 : Int) < (x.ne : Int)) := by
    by_cases h9 : x.ne ≤ 64
    · rw [decide_eq_true h9, decide_eq_false (by omega)]; rfl
    · rw [decide_eq_false h9, decide_eq_true (by omega)]; rfl
  rw [g1, g2, g3, g4, g5] at hq'
  clear g1 g2 g3 g4 g5
  obtain ⟨p1, ep1⟩ : ∃ p, (within1 1 6 x.ms.kind) = p := ⟨_, rfl⟩
  obtain ⟨p2, ep2⟩ : ∃ p, (within1 1 64 x.ms.fr) = p := ⟨_, rfl⟩
  obtain ⟨p3, ep3⟩ : ∃ p, (within1 1 64 x.ms.dst) = p := ⟨_, rfl⟩
  obtain ⟨p4, ep4⟩ : ∃ p, (x.ms.fr == x.ms.dst) = p := ⟨_, rfl⟩
  obtain ⟨p5, ep5⟩ : ∃ p, (within1 1 1099511627776 x.ms.term) = p := ⟨_, rfl⟩
  obtain ⟨p6, ep6⟩ : ∃ p, (within1 0 1099511627776 x.ms.ix) = p := ⟨_, rfl⟩
  obtain ⟨p7, ep7⟩ : ∃ p, (within1 0 1099511627776 x.ms.lt) = p := ⟨_, rfl⟩
  obtain ⟨p8, ep8⟩ : ∃ p, (within1 0 1099511627776 x.ms.cm) = p := ⟨_, rfl⟩
  obtain ⟨p9, ep9⟩ : ∃ p, (within1 0 1099511627776 x.ms.rd) = p := ⟨_, rfl⟩
  obtain ⟨p10, ep10⟩ : ∃ p, (within1 0 1099511627776 x.ms.off) = p := ⟨_, rfl⟩
  obtain ⟨p11, ep11⟩ : ∃ p, (decide ((4096 : Int) < (x.nd : Int))) = p := ⟨_, rfl⟩
  obtain ⟨p12, ep12⟩ : ∃ p, (decide ((64 : Int) < (x.ne : Int))) = p := ⟨_, rfl⟩
  rw [ep1, ep2, ep3, ep4, ep5, ep6, ep7, ep8, ep9, ep10, ep11, ep12] at hq'
  have hp1 : Calls Tryz.prog 63 #[.int .i64 x.kind, .int .i64 1, .int .i64 6] W0 (fun e w' => e = .returned (.bool p1) ∧ w' = W0) := by rw [← ep1]; exact in_any _ _ _ W0
  have hp2 : Calls Tryz.prog 63 #[.int .i64 x.fr, .int .i64 1, .int .i64 64] W0 (fun e w' => e = .returned (.bool p2) ∧ w' = W0) := by rw [← ep2]; exact in_any _ _ _ W0
  have hp3 : Calls Tryz.prog 63 #[.int .i64 x.dst, .int .i64 1, .int .i64 64] W0 (fun e w' => e = .returned (.bool p3) ∧ w' = W0) := by rw [← ep3]; exact in_any _ _ _ W0
  have hp5 : Calls Tryz.prog 63 #[.int .i64 x.term, .int .i64 1, .int .i64 1099511627776] W0 (fun e w' => e = .returned (.bool p5) ∧ w' = W0) := by rw [← ep5]; exact in_any _ _ _ W0
  have hp6 : Calls Tryz.prog 63 #[.int .i64 x.ix, .int .i64 0, .int .i64 1099511627776] W0 (fun e w' => e = .returned (.bool p6) ∧ w' = W0) := by rw [← ep6]; exact in_any _ _ _ W0
  have hp7 : Calls Tryz.prog 63 #[.int .i64 x.lt, .int .i64 0, .int .i64 1099511627776] W0 (fun e w' => e = .returned (.bool p7) ∧ w' = W0) := by rw [← ep7]; exact in_any _ _ _ W0
  have hp8 : Calls Tryz.prog 63 #[.int .i64 x.cm, .int .i64 0, .int .i64 1099511627776] W0 (fun e w' => e = .returned (.bool p8) ∧ w' = W0) := by rw [← ep8]; exact in_any _ _ _ W0
  have hp9 : Calls Tryz.prog 63 #[.int .i64 x.rd, .int .i64 0, .int .i64 1099511627776] W0 (fun e w' => e = .returned (.bool p9) ∧ w' = W0) := by rw [← ep9]; exact in_any _ _ _ W0
  have hp10 : Calls Tryz.prog 63 #[.int .i64 x.off, .int .i64 0, .int .i64 1099511627776] W0 (fun e w' => e = .returned (.bool p10) ∧ w' = W0) := by rw [← ep10]; exact in_any _ _ _ W0
  have ep4' : (x.fr == x.dst) = p4 := ep4
  have CC := Lib.hid (Mr.c12 b0)
  have HW := Lib.hid hW0
  have B := Lib.hid (And.intro hbe (And.intro l2 b0))
  have Q := Lib.hid hq'
  have Hd := Lib.hid hd
  have Hp1 := Lib.hid hp1
  have Hp2 := Lib.hid hp2
  have Hp3 := Lib.hid hp3
  have Hp5 := Lib.hid hp5
  have Hp6 := Lib.hid hp6
  have Hp7 := Lib.hid hp7
  have Hp8 := Lib.hid hp8
  have Hp9 := Lib.hid hp9
  have Hp10 := Lib.hid hp10
  clear hW0 b0 hbe l1 l2 hq hq' ep4 h hd hp1 hp2 hp3 hp5 hp6 hp7 hp8 hp9 hp10 ep1 ep2 ep3 ep5 ep6 ep7 ep8 ep9 ep10
  unfold Mr.val
  go_enter Tryz.func25, Tryz.ntmps25
  obtain ⟨c0, c1, c2, c3, c4, c5, c6, c7, c8, c9, c10, c11⟩ := CC.out
  go_upto_region 1 with (fail)
  have HW' := HW.out
  unfold Mr.cells at HW'
  rw [← HW']
  clear HW'
  cases p1 with
  | false =>
    go_wp2_with fail
    refine Hp1.out.mono ?_
    rintro e w1 ⟨rfl, hw1⟩
    rw [hw1]
    clear hw1 w1
    go_wp2_with fail
    go_ret
    exact ⟨ret_bool (by rw [Q.out]; rfl), B.out.1⟩
  | true =>
    go_wp2_with fail
    refine Hp1.out.mono ?_
    rintro e w1 ⟨rfl, hw1⟩
    rw [hw1]
    clear hw1 w1
    cases p2 with
    | false =>
      go_wp2_with fail
      refine Hp2.out.mono ?_
      rintro e w1 ⟨rfl, hw1⟩
      rw [hw1]
      clear hw1 w1
      go_wp2_with fail
      go_ret
      exact ⟨ret_bool (by rw [Q.out]; rfl), B.out.1⟩
    | true =>
      go_wp2_with fail
      refine Hp2.out.mono ?_
      rintro e w1 ⟨rfl, hw1⟩
      rw [hw1]
      clear hw1 w1
      cases p3 with
      | false =>
        go_wp2_with fail
        refine Hp3.out.mono ?_
        rintro e w1 ⟨rfl, hw1⟩
        rw [hw1]
        clear hw1 w1
        go_wp2_with fail
        go_ret
        exact ⟨ret_bool (by rw [Q.out]; rfl), B.out.1⟩
      | true =>
        go_wp2_with fail
        refine Hp3.out.mono ?_
        rintro e w1 ⟨rfl, hw1⟩
        rw [hw1]
        clear hw1 w1
        cases p4 with
        | true =>
          go_wp2_with fail
          go_ret
          exact ⟨ret_bool (by rw [Q.out]; rfl), B.out.1⟩
        | false =>
          cases p5 with
          | false =>
            go_wp2_with fail
            refine Hp5.out.mono ?_
            rintro e w1 ⟨rfl, hw1⟩
            rw [hw1]
            clear hw1 w1
            go_wp2_with fail
            go_ret
            exact ⟨ret_bool (by rw [Q.out]; rfl), B.out.1⟩
          | true =>
            go_wp2_with fail
            refine Hp5.out.mono ?_
            rintro e w1 ⟨rfl, hw1⟩
            rw [hw1]
            clear hw1 w1
            cases p6 with
            | false =>
              go_wp2_with fail
              refine Hp6.out.mono ?_
              rintro e w1 ⟨rfl, hw1⟩
              rw [hw1]
              clear hw1 w1
              go_wp2_with fail
              go_ret
              exact ⟨ret_bool (by rw [Q.out]; rfl), B.out.1⟩
            | true =>
              go_wp2_with fail
              refine Hp6.out.mono ?_
              rintro e w1 ⟨rfl, hw1⟩
              rw [hw1]
              clear hw1 w1
              cases p7 with
              | false =>
                go_wp2_with fail
                refine Hp7.out.mono ?_
                rintro e w1 ⟨rfl, hw1⟩
                rw [hw1]
                clear hw1 w1
                go_wp2_with fail
                go_ret
                exact ⟨ret_bool (by rw [Q.out]; rfl), B.out.1⟩
              | true =>
                go_wp2_with fail
                refine Hp7.out.mono ?_
                rintro e w1 ⟨rfl, hw1⟩
                rw [hw1]
                clear hw1 w1
                cases p8 with
                | false =>
                  go_wp2_with fail
                  refine Hp8.out.mono ?_
                  rintro e w1 ⟨rfl, hw1⟩
                  rw [hw1]
                  clear hw1 w1
                  go_wp2_with fail
                  go_ret
                  exact ⟨ret_bool (by rw [Q.out]; rfl), B.out.1⟩
                | true =>
                  go_wp2_with fail
                  refine Hp8.out.mono ?_
                  rintro e w1 ⟨rfl, hw1⟩
                  rw [hw1]
                  clear hw1 w1
                  cases p9 with
                  | false =>
                    go_wp2_with fail
                    refine Hp9.out.mono ?_
                    rintro e w1 ⟨rfl, hw1⟩
                    rw [hw1]
                    clear hw1 w1
                    go_wp2_with fail
                    go_ret
                    exact ⟨ret_bool (by rw [Q.out]; rfl), B.out.1⟩
                  | true =>
                    go_wp2_with fail
                    refine Hp9.out.mono ?_
                    rintro e w1 ⟨rfl, hw1⟩
                    rw [hw1]
                    clear hw1 w1
                    cases p10 with
                    | false =>
                      go_wp2_with fail
                      refine Hp10.out.mono ?_
                      rintro e w1 ⟨rfl, hw1⟩
                      rw [hw1]
                      clear hw1 w1
                      go_wp2_with fail
                      go_ret
                      exact ⟨ret_bool (by rw [Q.out]; rfl), B.out.1⟩
                    | true =>
                      go_wp2_with fail
                      refine Hp10.out.mono ?_
                      rintro e w1 ⟨rfl, hw1⟩
                      rw [hw1]
                      clear hw1 w1
                      cases p11 with
                      | true =>
                        go_wp2_with fail
                        go_ret
                        exact ⟨ret_bool (by rw [Q.out]; rfl), B.out.1⟩
                      | false =>
                        cases p12 with
                        | true =>
                          go_wp2_with fail
                          go_ret
                          exact ⟨ret_bool (by rw [Q.out]; rfl), B.out.1⟩
                        | false =>
                          obtain ⟨A, hA⟩ : ∃ A, A = x.E := ⟨_, rfl⟩
                          rw [← hA] at hr c11
                          have HA := Lib.hid hA
                          clear hA
                          have QQ := Lib.hid (show q = evenL (x.L.map en) by rw [Q.out]; rfl)
                          go_wp2_with fail
                          go_loopg [3, 4] x.ne (fun gm s3 s4 wr => ∃ j : Nat, gm = x.ne - j ∧ j ≤ x.ne ∧ s3 = .int .i64 j ∧ evenL ((x.L.take j).map en) = true ∧ Below W0.heap.size W0 wr)
                          case atStart => exact ⟨0, by omega, by omega, rfl, rfl, Below.refl _ _⟩
                          case round =>
                            obtain ⟨j, hm, hj, rfl, hno, hb⟩ := hrel
                            have Hm := Lib.hid hm
                            have Hno := Lib.hid hno
                            have Hb := Lib.hid hb
                            clear hm hno c0 c1 c2 c3 c4 c5 c6 c7 c8 c9 c10 c11
                            have c11 := (Mr.c12 (B.out.2.2.below Hb.out)).2.2.2.2.2.2.2.2.2.2.2
                            rw [← HA.out] at c11
                            by_cases hlt : j < x.ne
                            · obtain ⟨b, o, y, rfl, _, hbl, hy, d0, d1, d2, d3⟩ := er_cells (hr.below hb) hlt
                              have hjI : decide ((j : Int) < (x.ne : Int)) = true := decide_eq_true (by omega)
                              have hjn : (j : Int) < x.ne := by omega
                              have h0j : (0 : Int) ≤ j := by omega
                              have Hy := Lib.hid hy
                              have hym : y ∈ x.L := List.mem_of_getElem? hy
                              have hyl := (Hd.out y hym).1.blen
                              have of := odd_flat (en y)
                              have e4 : decide (4096 < (en y).d.length) = decide ((4096 : Int) < (y.n : Int)) := decide_eq_decide.2 (by show 4096 < y.d.length ↔ _; omega)
                              rw [e4] at of
                              obtain ⟨o1, eo1⟩ : ∃ p, within1 1 1099511627776 y.a = p := ⟨_, rfl⟩
                              obtain ⟨o2, eo2⟩ : ∃ p, within1 1 1099511627776 y.b = p := ⟨_, rfl⟩
                              obtain ⟨o3, eo3⟩ : ∃ p, within1 0 2 y.c = p := ⟨_, rfl⟩
                              obtain ⟨o4, eo4⟩ : ∃ p, decide ((4096 : Int) < (y.n : Int)) = p := ⟨_, rfl⟩
                              have of2 : oddE (en y) = (!o1 || (!o2 || (!o3 || o4))) := by rw [of, ← eo1, ← eo2, ← eo3, ← eo4]; rfl
                              obtain ⟨W1, hW1⟩ : ∃ W1, W1 = wr.alloc (.cells #[.int .i64 y.a, .int .i64 y.b, .int .i64 y.c, .slice y.A y.n y.m] 104) := ⟨_, rfl⟩
                              have b1 : Bx W1 wr.heap.size #[.int .i64 y.a, .int .i64 y.b, .int .i64 y.c, .slice y.A y.n y.m] := by subst hW1; exact Bx.new _ _ _ rfl
                              have hb1 : Below wr.heap.size wr W1 := by subst hW1; exact (Below.refl _ _).alloc (Nat.le_refl _) _
                              have ho1 : Calls Tryz.prog 63 #[.int .i64 y.a, .int .i64 1, .int .i64 1099511627776] W1 (fun e w' => e = .returned (.bool o1) ∧ w' = W1) := by rw [← eo1]; exact in_any _ _ _ W1
                              have ho2 : Calls Tryz.prog 63 #[.int .i64 y.b, .int .i64 1, .int .i64 1099511627776] W1 (fun e w' => e = .returned (.bool o2) ∧ w' = W1) := by rw [← eo2]; exact in_any _ _ _ W1
                              have ho3 : Calls Tryz.prog 63 #[.int .i64 y.c, .int .i64 0, .int .i64 2] W1 (fun e w' => e = .returned (.bool o3) ∧ w' = W1) := by rw [← eo3]; exact in_any _ _ _ W1
                              have HW1 := Lib.hid hW1
                              have B1 := Lib.hid (And.intro b1 (Hb.out.trans (hb1.mono Hb.out.size)))
                              have Ho1 := Lib.hid ho1
                              have Ho2 := Lib.hid ho2
                              have Ho3 := Lib.hid ho3
                              have Of := Lib.hid of2
                              clear hy hb b1 hb1 hW1 ho1 ho2 ho3 of of2 eo1 eo2 eo3 hym hyl e4
                              go_upto_region 9 with (fail)
                              rw [← HW1.out]
                              obtain ⟨k0, k1, k2, k3, -⟩ := B1.out.1.c4
                              have bad : Hid (oddE (en y) = true → q = false) := Lib.hid fun h => by
                                rw [QQ.out]
                                exact evenL_no Hy.out h
                              clear c11 d0 d1 d2 d3
                              cases o1 with
                              | false =>
                                go_wp2_with fail
                                refine Ho1.out.mono ?_
                                rintro e w1 ⟨rfl, hw1⟩
                                rw [hw1]
                                clear hw1 w1
                                have hqf := bad.out (by rw [Of.out]; rfl)
                                have QF := Lib.hid hqf
                                clear hqf
                                go_wp2_with fail
                                go_ret
                                exact ⟨ret_bool QF.out.symm, B.out.1.trans (B1.out.2.mono B.out.1.size)⟩
                              | true =>
                                go_wp2_with fail
                                refine Ho1.out.mono ?_
                                rintro e w1 ⟨rfl, hw1⟩
                                rw [hw1]
                                clear hw1 w1
                                cases o2 with
                                | false =>
                                  go_wp2_with fail
                                  refine Ho2.out.mono ?_
                                  rintro e w1 ⟨rfl, hw1⟩
                                  rw [hw1]
                                  clear hw1 w1
                                  have hqf := bad.out (by rw [Of.out]; rfl)
                                  have QF := Lib.hid hqf
                                  clear hqf
                                  go_wp2_with fail
                                  go_ret
                                  exact ⟨ret_bool QF.out.symm, B.out.1.trans (B1.out.2.mono B.out.1.size)⟩
                                | true =>
                                  go_wp2_with fail
                                  refine Ho2.out.mono ?_
                                  rintro e w1 ⟨rfl, hw1⟩
                                  rw [hw1]
                                  clear hw1 w1
                                  cases o3 with
                                  | false =>
                                    go_wp2_with fail
                                    refine Ho3.out.mono ?_
                                    rintro e w1 ⟨rfl, hw1⟩
                                    rw [hw1]
                                    clear hw1 w1
                                    have hqf := bad.out (by rw [Of.out]; rfl)
                                    have QF := Lib.hid hqf
                                    clear hqf
                                    go_wp2_with fail
                                    go_ret
                                    exact ⟨ret_bool QF.out.symm, B.out.1.trans (B1.out.2.mono B.out.1.size)⟩
                                  | true =>
                                    go_wp2_with fail
                                    refine Ho3.out.mono ?_
                                    rintro e w1 ⟨rfl, hw1⟩
                                    rw [hw1]
                                    clear hw1 w1
                                    cases o4 with
                                    | true =>
                                      have hqf := bad.out (by rw [Of.out]; rfl)
                                      have QF := Lib.hid hqf
                                      clear hqf
                                      go_wp2_with fail
                                      go_ret
                                      exact ⟨ret_bool QF.out.symm, B.out.1.trans (B1.out.2.mono B.out.1.size)⟩
                                    | false =>
                                      have HS := Lib.hid (show evenL ((x.L.take (j + 1)).map en) = true by
                                        rw [List.take_add_one, Hy.out, List.map_append]
                                        unfold evenL at Hno ⊢
                                        rw [List.all_append, Hno.out]
                                        show (true && (!oddE (en y) && true)) = true
                                        rw [Of.out]
                                        rfl)
                                      go_wp2_with fail
                                      go_roundg (x.ne - (j + 1))
                                      case measure => have := Hm.out; omega
                                      case rel => exact ⟨j + 1, rfl, by omega, by go_num, HS.out, B1.out.2⟩
                            · obtain rfl : j = x.ne := by omega
                              have hjI : decide ((x.ne : Int) < (x.ne : Int)) = false := decide_eq_false (by omega)
                              have QF := Lib.hid (show q = true by
                                rw [QQ.out]
                                have := Hno.out
                                rwa [List.take_of_length_le (Nat.le_of_eq B.out.2.1)] at this)
                              go_wp2_with fail
                              go_ret
                              exact ⟨ret_bool QF.out.symm, B.out.1.trans (Hb.out.mono B.out.1.size)⟩
end Go.Proofs.YtmhaahcbmdhinaaGreatDoor

