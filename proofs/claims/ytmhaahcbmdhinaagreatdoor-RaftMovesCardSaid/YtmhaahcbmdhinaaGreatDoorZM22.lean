/- Two rows of messages, one behind the other; what is told behind an entry of one's own.
   Walk: entry.Add, also where it refuses.
   A member in memory: another log, another map; the member that begins to lead.
   Walk: (*raft.Core).lead
   Walk: (*raft.Core).may
   Walk: (*raft.Core).stand -/
import Derived.Test.YtmhaahcbmdhinaaGreatDoorZM21
import Derived.Test.YtmhaahcbmdhinaaGreatDoorZM10
import Derived.Test.YtmhaahcbmdhinaaGreatDoorZM19
import Derived.Deep.DeepCutAuto
namespace Go.Proofs.YtmhaahcbmdhinaaGreatDoor
open Go.RowKit
set_option maxRecDepth 100000
set_option linter.unusedVariables false
set_option linter.unusedSimpArgs false
theorem flat_mcell_app (X Y : List Mr) : flat mcell (X ++ Y) = flat mcell X ++ flat mcell Y := by simp [flat]
section
variable {W W2 : World} {B n c k c2 : Nat} {A A2 : Option Addr} {X Y : List Mr}
theorem Rm.join (h : Rm W B A n c X) (hy : ∀ y ∈ Y, y.At W (fun b => B ≤ b ∧ A.map (·.block) ≠ some b)) (ho : W2.ownsRow B 78 12 (.slice A2 k c2) k (flat mcell X ++ flat mcell Y)) (hg : W.grownBy W2 (A.map (·.block)))
  (ha : A2.map (·.block) = A.map (·.block) ∨ A2.map (·.block) = some W.heap.size) : Rm W2 B A2 k c2 (X ++ Y) := by
 refine ⟨by rw [flat_mcell_app]; exact ho, fun y hy' => ?_⟩
 have h1 : y.At W (fun b => B ≤ b ∧ A.map (·.block) ≠ some b) := (List.mem_append.1 hy').elim (h.dt y) (hy y)
 refine (h1.lt.keep fun b hb hl => hg.block b hl fun e => hb.1.2 e.symm).mono fun b hb => ⟨hb.1.1, ?_⟩
 rcases ha with e | e
 ·rw [e]; exact hb.1.2
 ·rw [e]; intro e2; injection e2 with e2; have := hb.2; omega
end
section
variable {fb p : Nat} {W w1 w2 w3 : World} {V U V2 U2 : Nat → Prop} {C C1 C2 : Cr} {m m2 : Mb} {A1 A2 A3 : Option Addr} {n1 c1 n2 c2 k c3 : Nat} {X1 X2 : List Mr}
theorem CX.widen (h0 : CX fb W p V U C m) (h1 : CX fb w1 p V U C1 m) (hk : Kept (· = m.q) W w1) {N : Nat → Prop} (hN : ∀ b, N b → W.heap.size ≤ b ∧ b < w1.heap.size) (hh : C1.hv = C.hv) (hs : C1.s = C.s) : CX fb w1 p V (fun b => U b ∨ N b) C1 m :=
 ⟨h1.bx, h1.pm, h1.vp, h1.vq, h1.qp, h1.vv, fun b hb => .inl (h1.vu b hb), h1.vf, fun b hb => hb.elim (h1.ul b) fun h => (hN b h).2, h1.vt,
  (h0.at_.lt.keep fun b hb hl => hk.block b hl fun e => hb.1 (e ▸ h0.vu _ h0.vq)).mono fun b hb h => h.elim hb.1 fun h => by have := (hN b h).1; have := hb.2; omega, h1.st,
  (by rw [hh]; exact ((h0.hv.lt (by omega)).keep fun b hb hl => hk.block b hl fun e => hb.1 (e ▸ h0.vu _ h0.vq)).mono fun b hb h => h.elim hb.1 fun h => by have := (hN b h).1; have := hb.2; omega), h1.hk⟩
theorem sendAll_keep (C : Cr) : C.sendAll.1.hv = C.hv ∧ C.sendAll.1.s = C.s := by
 unfold Cr.sendAll
 rw [sendL_fst, knowL_eta]
 exact ⟨rfl, rfl⟩
theorem join_out (hc : CX fb W p V U C m) (h1 : Rm w1 W.heap.size A1 n1 c1 X1) (hk1 : Kept (· = m.q) W w1) (h2 : Rm w2 w1.heap.size A2 n2 c2 X2) (hU2 : ∀ x ∈ X2, x.At w2 (fun b => ¬ U2 b)) (hto : CTo fb w1 p V (fun b => U b ∨ A1.map (·.block) = some b) C2 w2 V2 U2 m2)
  (ho : w3.ownsRow W.heap.size 78 12 (.slice A3 k c3) k (flat mcell X1 ++ flat mcell X2)) (hg : w2.grownBy w3 (A1.map (·.block))) (ha : A3.map (·.block) = A1.map (·.block) ∨ A3.map (·.block) = some w2.heap.size) :
  Rm w3 W.heap.size A3 k c3 (X1 ++ X2) ∧ (∀ x ∈ X1 ++ X2, x.At w3 (fun b => ¬ U2 b)) ∧ CTo fb W p V U C2 w3 V2 U2 m2 := by
 have hA := own_lt h1.ow
 have hV : ∀ b, V b → b < W.heap.size := fun b hb => hc.ul b (hc.vu b hb)
 have hz := hk1.size
 have r1 : Rm w2 W.heap.size A1 n1 c1 X1 := h1.kept hto.kept hV
 have hnv : ∀ b, A1.map (·.block) = some b → ¬ V2 b := fun b e hv => (hto.vs b hv).elim (fun h => by have := hV b h; have := (hA b e).1; omega) fun h => by have := (hA b e).2; omega
 have hy : ∀ y ∈ X2, y.At w2 (fun b => W.heap.size ≤ b ∧ A1.map (·.block) ≠ some b) := fun y hy => (h2.at_ hy).mono fun b hb => ⟨by omega, fun e => by have := (hA b e).2; omega⟩
 have hA2 : ∀ b, A1.map (·.block) = some b → U2 b := fun b e => hto.us b (.inr e)
 refine ⟨r1.join hy ho hg ha, fun x hx => ?_, ?_⟩
 ·have h4 : x.At w2 (fun b => ¬ U2 b) := by
   rcases List.mem_append.1 hx with h5 | h5
   ·refine ((h1.dt x h5).lt.keep (W' := w2) fun b hb hl => hto.kept.block b hl fun hv => by have := hV b hv; have := hb.1.1; omega).mono fun b hb hu => ?_
    rcases hto.un b hu with (h6 | h6) | h6
    ·have := hc.ul b h6; have := hb.1.1; omega
    ·exact hb.1.2 h6
    ·have := hb.2; omega
   ·exact hU2 x h5
  exact h4.keep fun b hb hl => hg.block b hl fun e => hb (hA2 b e.symm)
 ·refine ⟨hto.cx.hold (fun b hl hb => hg.block b hl fun e => hb.elim (hnv b e.symm) fun h => h (hA2 b e.symm)) hg.size, fun b hb => ?_, fun b hb => hto.us b (.inl hb), fun b hb => ?_, ?_⟩
  ·exact (hto.vs b hb).imp id fun h => by omega
  ·rcases hto.un b hb with (h6 | h6) | h6
   ·exact .inl h6
   ·exact .inr (hA b h6).1
   ·exact .inr (by omega)
  ·have k2 : Kept V W w2 := ((Kept.refl V W).trans hk1 fun b _ e => e ▸ hc.vq).trans hto.kept fun _ _ h => h
   have hgk := (Kept.refl (fun b => A1.map (·.block) = some b) w2).grown hg fun b e => e
   exact k2.trans hgk fun b hb e => by have := (hA b e).1; omega
end
def AddNo (W : World) (k : Int) (e : Ending) (w' : World) : Prop := e = .returned (.tuple #[.agg #[.int .i64 0, .int .i64 0, .slice none 0 0], .iface 105 (.int .i64 k)]) ∧ Below W.heap.size W w'
set_option maxHeartbeats 6400000 in
theorem add_no (k b t tm kd : Int) (A : Option Addr) (n c : Nat) (L : List Er) (Ad : Option Addr) (nd cd : Nat) (w : World) {ok : Nat → Prop} (hr : Rd w ok 4 A n (flat ecell L)) (hw : Wel L) (hm : lmay b t (L.map en) = true) (hn : n ≤ 1000000)
  (h : (k = 1 ∧ decide (tm < max (lstB t (L.map en)) 1) = true) ∨ (k = 1 ∧ decide (tm < max (lstB t (L.map en)) 1) = false ∧ (decide (1099511627776 < tm) = true ∨ decide (1099511627776 < tm) = false ∧ (decide (kd < 0) = true ∨ decide (kd < 0) = false ∧ (decide (2 < kd) = true ∨ decide (2 < kd) = false ∧ decide (1099511627776 ≤ lstA b (L.map en)) = true)))) ∨
   (decide (tm < max (lstB t (L.map en)) 1) = false ∧ decide (1099511627776 < tm) = false ∧ decide (kd < 0) = false ∧ decide (2 < kd) = false ∧ decide (1099511627776 ≤ lstA b (L.map en)) = false ∧ (k = 2 ∧ decide (4096 < (nd : Int)) = true ∨ decide (4096 < (nd : Int)) = false ∧ k = 10 ∧ decide (4096 ≤ (n : Int)) = true))) :
  Calls Tryz.prog 54 #[.agg #[.int .i64 b, .int .i64 t, .slice A n c], .int .i64 tm, .int .i64 kd, .slice Ad nd cd] w (AddNo w k) := by
 obtain ⟨W0, hW0⟩ : ∃ W0, W0 = (w.alloc (.cells #[.int .i64 b, .int .i64 t, .slice A n c] 38)).alloc (.cells #[.int .i64 0, .int .i64 0, .slice none 0 0] 38) := ⟨_, rfl⟩
 have b0 : Bx W0 w.heap.size #[.int .i64 b, .int .i64 t, .slice A n c] := by subst hW0; exact (Bx.new _ _ _ rfl).alloc _
 have b1 : Bx W0 (w.heap.size + 1) #[.int .i64 0, .int .i64 0, .slice none 0 0] := by subst hW0; exact Bx.new _ _ _ (by simp)
 have r0 : Rd W0 ok 4 A n (flat ecell L) := by subst hW0; exact (hr.alloc _).alloc _
 have hbe : Below w.heap.size w W0 := by subst hW0; exact ((Below.refl _ _).alloc (Nat.le_refl _) _).alloc (by simp) _
 have hmm := may_any b t A n c L W0 r0 hw hn
 have hlt := fun W (hb : Below W0.heap.size W0 W) => last_any b t A n c L W (r0.below hb) hn
 have F : ∀ W, Below W0.heap.size W0 W → W.cell? ⟨w.heap.size, 0, none⟩ = some (.int .i64 b) ∧ W.cell? ⟨w.heap.size, 1, none⟩ = some (.int .i64 t) ∧ W.cell? ⟨w.heap.size, 2, none⟩ = some (.slice A n c) := fun W hb => ⟨(b0.below hb).c 0, (b0.below hb).c 1, (b0.below hb).c 2⟩
 have G : ∀ W, Below W0.heap.size W0 W → W.cell? ⟨w.heap.size + 1, 0, none⟩ = some (.int .i64 0) ∧ W.cell? ⟨w.heap.size + 1, 1, none⟩ = some (.int .i64 0) ∧ W.cell? ⟨w.heap.size + 1, 2, none⟩ = some (.slice none 0 0) ∧ W.frozen? ⟨w.heap.size + 1, 0, none⟩ = false ∧ W.frozen? ⟨w.heap.size + 1, 1, none⟩ = false ∧ W.frozen? ⟨w.heap.size + 1, 2, none⟩ = false := fun W hb => ⟨(b1.below hb).c 0, (b1.below hb).c 1, (b1.below hb).c 2, (b1.below hb).f 0, (b1.below hb).f 1, (b1.below hb).f 2⟩
 rw [hm] at hmm
 generalize lstA b (L.map en) = z at hlt h
 generalize lstB t (L.map en) = y at hlt h
 have Hmm := Lib.hid hmm
 have Hlt := Lib.hid hlt
 have HW := Lib.hid hW0
 have FF := Lib.hid F
 have GG := Lib.hid G
 have HB := Lib.hid hbe
 obtain ⟨u0, u1, u2⟩ := F W0 (Below.refl _ _)
 clear hW0 b0 b1 hr r0 hmm hlt hbe F G hw hm
 rcases h with ⟨rfl, h⟩ | ⟨rfl, h, h1 | ⟨h1, h2 | ⟨h2, h3 | ⟨h3, h4⟩⟩⟩⟩ | ⟨h, h1, h2, h3, h4, ⟨rfl, h5⟩ | ⟨h5, rfl, h6⟩⟩
 all_goals
  go_enter Tryz.func54, Tryz.ntmps54
  go_wp2_with fail
  rw [← HW.out]
  refine Hmm.out.mono ?_
  rintro e w1 ⟨rfl, hb1⟩
  obtain ⟨v0, v1, v2⟩ := FF.out w1 hb1
  go_wp2_with fail
  refine (Hlt.out w1 hb1).mono ?_
  rintro e w2 ⟨rfl, hb2⟩
  have hb2' := hb1.trans (hb2.mono hb1.size)
  obtain ⟨a0, a1, a2⟩ := FF.out w2 hb2'
  obtain ⟨g0, g1, g2, g3, g4, g5⟩ := GG.out w2 hb2'
  have B2 := Lib.hid hb2'
  clear hb1 hb2 hb2' u0 u1 u2 v0 v1 v2
  go_wp2_with fail
  refine bodyPost_ret (by simp [results, Tryz.results54, go_sem, g0, g1, g2]; rfl) rfl ?_
  exact ⟨rfl, (((HB.out.trans (B2.out.mono HB.out.size)).setCell (p := ⟨w.heap.size + 1, 0, none⟩) (Nat.le_succ _) _).setCell (p := ⟨w.heap.size + 1, 1, none⟩) (Nat.le_succ _) _).setCell (p := ⟨w.heap.size + 1, 2, none⟩) (Nat.le_succ _) _⟩
def AddAll (W : World) (b t tm kd : Int) (n : Nat) (L : List Er) (d : List UInt8) (r : Int × List En) (e : Ending) (w' : World) : Prop :=
 if r.1 = 0 then AddPost W b t tm kd (lstA b (L.map en)) n L d e w' else AddNo W r.1 e w'
theorem AddAll.no {W : World} {b t tm kd : Int} {n : Nat} {L : List Er} {d : List UInt8} {r : Int × List En} {k : Int} {e : Ending} {w' : World} (hr : r = (k, [])) (hk : k ≠ 0) (h : AddNo W k e w') : AddAll W b t tm kd n L d r e w' := by
 subst hr
 unfold AddAll
 rw [if_neg hk]
 exact h
theorem AddAll.yes {W : World} {b t tm kd : Int} {n : Nat} {L : List Er} {d : List UInt8} {r : Int × List En} {e : Ending} {w' : World} (hr : r.1 = 0) (h : AddPost W b t tm kd (lstA b (L.map en)) n L d e w') : AddAll W b t tm kd n L d r e w' := by
 unfold AddAll
 rw [if_pos hr]
 exact h
theorem add_all (b t tm kd : Int) (A : Option Addr) (n c : Nat) (L : List Er) (Ad : Option Addr) (nd cd : Nat) (d : List UInt8) (w : World) (hr : Rd w T 4 A n (flat ecell L)) (hd : Dat w L) (hw : Wel L) (hs : ∀ x ∈ L, x.n ≤ 1000000) (hm : lmay b t (L.map en) = true) (hdr : Rd w T 1 Ad nd (bs d)) :
  Calls Tryz.prog 54 #[.agg #[.int .i64 b, .int .i64 t, .slice A n c], .int .i64 tm, .int .i64 kd, .slice Ad nd cd] w (AddAll w b t tm kd n L d (addL b t (L.map en) tm kd d)) := by
 have hl := hr.flen ecell_len (by omega)
 have hdl := hdr.blen
 have hn := (lmay_iff.1 hm).2.1
 rw [List.length_map] at hn
 by_cases h1 : tm < max (lstB t (L.map en)) 1 ∨ 1099511627776 < tm ∨ kd < 0 ∨ 2 < kd ∨ 1099511627776 ≤ lstA b (L.map en)
 ·have e : addL b t (L.map en) tm kd d = (1, []) := by unfold addL; rw [if_pos h1]
  refine (add_no 1 b t tm kd A n c L Ad nd cd w hr hw hm (by omega) ?_).mono fun _ _ h => AddAll.no e (by decide) h
  by_cases g1 : tm < max (lstB t (L.map en)) 1
  ·exact .inl ⟨rfl, decide_eq_true g1⟩
  ·refine .inr (.inl ⟨rfl, decide_eq_false g1, ?_⟩)
   by_cases g2 : 1099511627776 < tm
   ·exact .inl (decide_eq_true g2)
   ·refine .inr ⟨decide_eq_false g2, ?_⟩
    by_cases g3 : kd < 0
    ·exact .inl (decide_eq_true g3)
    ·refine .inr ⟨decide_eq_false g3, ?_⟩
     by_cases g4 : 2 < kd
     ·exact .inl (decide_eq_true g4)
     ·refine .inr ⟨decide_eq_false g4, decide_eq_true ?_⟩
      omega
 ·have hf : ∀ {q : Prop} [Decidable q], ¬ q → decide q = false := fun h => decide_eq_false h
  have g1 : ¬ tm < max (lstB t (L.map en)) 1 := fun h => h1 (.inl h)
  have g2 : ¬ 1099511627776 < tm := fun h => h1 (.inr (.inl h))
  have g3 : ¬ kd < 0 := fun h => h1 (.inr (.inr (.inl h)))
  have g4 : ¬ 2 < kd := fun h => h1 (.inr (.inr (.inr (.inl h))))
  have g5 : ¬ 1099511627776 ≤ lstA b (L.map en) := fun h => h1 (.inr (.inr (.inr (.inr h))))
  by_cases h2 : 4096 < d.length
  ·have e : addL b t (L.map en) tm kd d = (2, []) := by unfold addL; rw [if_neg h1, if_pos h2]
   exact (add_no 2 b t tm kd A n c L Ad nd cd w hr hw hm (by omega) (.inr (.inr ⟨hf g1, hf g2, hf g3, hf g4, hf g5, .inl ⟨rfl, decide_eq_true (by omega)⟩⟩))).mono fun _ _ h => AddAll.no e (by decide) h
  ·by_cases h3 : 4096 ≤ (L.map en).length
   ·have e : addL b t (L.map en) tm kd d = (10, []) := by unfold addL; rw [if_neg h1, if_neg h2, if_pos h3]
    rw [List.length_map] at h3
    exact (add_no 10 b t tm kd A n c L Ad nd cd w hr hw hm (by omega) (.inr (.inr ⟨hf g1, hf g2, hf g3, hf g4, hf g5, .inr ⟨hf (by omega), rfl, decide_eq_true (by omega)⟩⟩))).mono fun _ _ h => AddAll.no e (by decide) h
   ·have e : (addL b t (L.map en) tm kd d).1 = 0 := by unfold addL; rw [if_neg h1, if_neg h2, if_neg h3]
    rw [List.length_map] at h3
    exact (add_yes b t tm kd A n c L Ad nd cd d w hr hd hw hs hm hdr (by omega) (by omega) (by omega) (by omega) (by omega) (by omega) (by omega) (by omega)).mono fun _ _ h => AddAll.yes e h
def Mb.withLog (m : Mb) (A : Option Addr) (n c : Nat) (L : List Er) : Mb := { m with s := { m.s with A := A, n := n, c := c, L := L } }
section
variable {fb p : Nat} {w W W' : World} {V U V' U' : Nat → Prop} {C C' : Cr} {m m' : Mb}
theorem CTo.remap (h : CTo fb w p V U C W V' U' m) (hk : Kept (· = m.q) W W') {f : Int → Option Pe} (hp : Pm W' m.q f) : CTo fb w p V U { C with peers := f } W' V' U' m :=
 ⟨h.cx.remap hk hp, h.vs, h.us, h.un, h.kept.trans hk fun b hb e => (h.vs b (e ▸ h.cx.vq)).elim id fun h2 => by omega⟩
theorem CTo.logged {A : Option Addr} {n c : Nat} {L : List Er} (h : CTo fb w p V U C W V' U' m) (hr : Rd W (fun b => ¬ U' b) 4 A n (flat ecell L)) (hd : ∀ y ∈ L, Rd W (fun b => ¬ U' b) 1 y.A y.n (bs y.d) ∧ y.n ≤ y.m ∧ y.m ≤ maxLen) (hc : n ≤ c ∧ c ≤ maxLen) :
  CTo fb w p V U (C.withLog (L.map en)) (((W.setCell ⟨p, 2, none⟩ (.int .i64 m.s.b)).setCell ⟨p, 3, none⟩ (.int .i64 m.s.t)).setCell ⟨p, 4, none⟩ (.slice A n c)) V' U' (m.withLog A n c L) := by
 have hx := h.cx
 have hg : W.grownBy (((W.setCell ⟨p, 2, none⟩ (.int .i64 m.s.b)).setCell ⟨p, 3, none⟩ (.int .i64 m.s.t)).setCell ⟨p, 4, none⟩ (.slice A n c)) (some p) := gb_trans (gb_trans (gb_set _ p 2 _) (gb_set _ p 3 _)) (gb_set _ p 4 _)
 have hu : ∀ b, ¬ U' b → some b ≠ some p := fun b hb e => by injection e with e; exact hb (e ▸ hx.vu p hx.vp)
 have hbx : Bx (((W.setCell ⟨p, 2, none⟩ (.int .i64 m.s.b)).setCell ⟨p, 3, none⟩ (.int .i64 m.s.t)).setCell ⟨p, 4, none⟩ (.slice A n c)) p ((m.withLog A n c L).cells (C.withLog (L.map en))) := ((hx.bx.set 2 (.int .i64 m.s.b)).set 3 (.int .i64 m.s.t)).set 4 (.slice A n c)
 have hat := hx.at_
 refine ⟨⟨hbx, hx.pm.keep (hg.block _ hx.pm.lt fun e => hx.qp (by injection e)), hx.vp, hx.vq, hx.qp, hx.vv, hx.vu, hx.vf, fun b hb => Nat.lt_of_lt_of_le (hx.ul b hb) hg.size, ?_, ?_, ?_, hx.hv.keep fun b hb hl => hg.block b hl (hu b hb), hx.hk⟩, h.vs, h.us, h.un, ?_⟩
 ·refine ⟨hx.vt.1, ?_⟩
  rcases hx.vt.2 with h1 | ⟨g, cap, cur, h1, h2, h3, h4⟩
  ·exact .inl h1
  ·refine .inr ⟨g, cap, cur, h1, h2, ?_, h4⟩
   rw [hg.block g (Array.getElem?_eq_some_iff.1 h3).1 (fun e => (hx.vv g (by injection h1 with h1; rw [h1]; rfl)).2.1 (by injection e)), h3]
 ·have hk : ∀ b, ¬ U' b → b < W.heap.size → _ := fun b hb hl => hg.block b hl (hu b hb)
  exact ⟨hr.keep hk, fun y hy => ⟨(hd y hy).1.keep hk, (hd y hy).2⟩, hat.cf.keep hk, hat.sn.keep hk, hc, hat.k2, hat.k3⟩
 ·have := hx.st
  unfold Mb.withLog Cr.withLog Sv.st
  dsimp only
  rw [← this]
  rfl
 ·exact h.kept.trans ((Kept.refl (· = p) W).grown hg fun b e => by injection e with e; exact e.symm) fun b hb e => (h.vs b (e ▸ hx.vp)).elim id fun h2 => by omega
theorem CTo.cells (h : CTo fb w p V U C W V' U' m) (hb : Bx W' p (m.cells C')) (hk : W.grownBy W' (some p)) (h1 : C'.s = C.s) (h2 : C'.peers = C.peers) (h3 : C'.votes = C.votes) (h4 : C'.hv = C.hv) : CTo fb w p V U C' W' V' U' m :=
 ⟨h.cx.to hb hk h1 h2 h3 h4, h.vs, h.us, h.un, h.kept.trans ((Kept.refl (· = p) W).grown hk fun b e => by injection e with e; exact e.symm) fun b hb e => (h.vs b (e ▸ h.cx.vp)).elim id fun h2 => by omega⟩
def Cr.begins (C : Cr) : Cr := { C with role := 2, leader := C.id, gone := 0, peers := fun _ => none }
theorem CX.leads (h : CX fb w p V U C m) (hf : fb ≤ w.heap.size) {o : Obj} (ho : o = .map #[] 0) :
  CTo fb w p V U C.begins (((((w.alloc o).setCell ⟨p, 7, none⟩ (.int .i64 2)).setCell ⟨p, 8, none⟩ (.int .i64 C.id)).setCell ⟨p, 13, none⟩ (.int .i64 0)).setCell ⟨p, 16, none⟩ (.map (some w.heap.size))) (fun b => V b ∨ b = w.heap.size) (fun b => U b ∨ b = w.heap.size) { m with q := w.heap.size } := by
 subst ho
 obtain ⟨W1, hW1⟩ : ∃ W1, W1 = ((((w.alloc (.map #[] 0)).setCell ⟨p, 7, none⟩ (.int .i64 2)).setCell ⟨p, 8, none⟩ (.int .i64 C.id)).setCell ⟨p, 13, none⟩ (.int .i64 0)).setCell ⟨p, 16, none⟩ (.map (some w.heap.size)) := ⟨_, rfl⟩
 have hpl := h.bx.lt
 have hbx : Bx W1 p (Mb.cells { m with q := w.heap.size } C.begins) := by
  subst hW1
  exact (((((h.bx.alloc (.map #[] 0)).set 7 (.int .i64 2)).set 8 (.int .i64 C.id)).set 13 (.int .i64 0)).set 16 (.map (some w.heap.size)))
 have hk : ∀ b, b < w.heap.size → b ≠ p → W1.heap[b]? = w.heap[b]? := fun b hb hne => by
  subst hW1
  iterate 4 refine (Below.heap_setCell _ _ _ b hne).trans ?_
  exact Below.heap_alloc _ _ _ hb
 have hm : W1.heap[w.heap.size]? = some (.map #[] 0) := by
  subst hW1
  have hne : w.heap.size ≠ p := by omega
  iterate 4 refine (Below.heap_setCell _ _ _ _ hne).trans ?_
  exact heap_alloc_new w _
 have hz : W1.heap.size = w.heap.size + 1 := by subst hW1; simp [World.setCell]
 have hos : W1.os = w.os ∧ W1.tape = w.tape ∧ W1.output = w.output := by subst hW1; exact ⟨rfl, rfl, rfl⟩
 rw [← hW1]
 clear hW1
 have hup : U p := h.vu p h.vp
 have hkn : ∀ b, ¬ (U b ∨ b = w.heap.size) → b < w.heap.size → W1.heap[b]? = w.heap[b]? := fun b hb hl => hk b hl fun e => hb (.inl (e ▸ hup))
 have hlt := h.at_.lt
 have hh := h.hv.lt (by omega)
 refine ⟨⟨hbx, Pm.made_at hm, .inl h.vp, .inr rfl, by show w.heap.size ≠ p; omega, fun g hg => ?_, fun b hb => hb.imp (h.vu b) id, fun b hb => hb.elim (h.vf b) fun e => by omega, fun b hb => ?_, ?_, ?_, h.st, ?_, h.hk⟩, fun b hb => hb.imp id fun e => by omega, fun b hb => .inl hb, fun b hb => hb.imp id fun e => by omega, hos.1, hos.2.1, hos.2.2, by omega, fun b hl hb => hk b hl fun e => hb (e ▸ h.vp)⟩
 ·obtain ⟨h1, h2, h3⟩ := h.vv g hg
  exact ⟨.inl h1, h2, fun e => by have := h.ul g (h.vu g h1); have e2 : g = w.heap.size := e; omega⟩
 ·rcases hb with hb | rfl
  ·have := h.ul b hb; omega
  ·omega
 ·refine ⟨h.vt.1, ?_⟩
  rcases h.vt.2 with h1 | ⟨g, cap, cur, h1, h2, h3, h4⟩
  ·exact .inl h1
  ·refine .inr ⟨g, cap, cur, h1, h2, ?_, h4⟩
   rw [hk g (Array.getElem?_eq_some_iff.1 h3).1 (h.vv g (by injection h1 with h1; rw [h1]; rfl)).2.1, h3]
 ·refine (hlt.mono (ok' := fun b => ¬ (U b ∨ b = w.heap.size)) fun b hb h2 => h2.elim hb.1 fun e => by have := hb.2; omega).keep hkn
 ·refine (hh.mono (ok' := fun b => ¬ (U b ∨ b = w.heap.size)) fun b hb h2 => h2.elim hb.1 fun e => by have := hb.2; omega).keep hkn
end
theorem sendL_len : ∀ (l : List Int) (C : Cr), (C.sendL l).2.length = l.length
 | [], _ => rfl
 | w :: l, C => by
  show (_ :: ((C.know w).sendL l).2).length = _
  rw [List.length_cons, sendL_len l (C.know w)]
  rfl
theorem sendAll_len (C : Cr) : C.sendAll.2.length = C.others.length := sendL_len _ _
theorem advance_len {C : Cr} {k : Nat} (h : C.Ok k) : C.advance.2.length ≤ 7 := by
 unfold Cr.advance
 dsimp only
 split
 ·exact Nat.zero_le _
 ·split
  ·exact Nat.zero_le _
  ·rw [sendAll_len]
   exact others_len (C := { C with commit := _ }) h.may
theorem lead_eq (C : Cr) : C.lead = if (addL C.s.b C.s.t C.s.l C.s.tm 0 []).1 = 0 then ((C.begins.knowL C.others).withLog (addL C.s.b C.s.t C.s.l C.s.tm 0 []).2).tell else ((C.begins.knowL C.others).follow 0, []) := by
 unfold Cr.lead
 have e : Cr.knowL { C with role := 2, leader := C.id, gone := 0, peers := fun _ => none } C.others = C.begins.knowL C.others := rfl
 rw [e, knowL_eta]
 rfl
theorem Cr.Ok.begins {C : Cr} {k : Nat} (h : C.Ok k) : C.begins.Ok k := h.leads
set_option maxHeartbeats 12800000 in
theorem lead_any {fb p : Nat} {w : World} {V U : Nat → Prop} {C : Cr} {m : Mb} {k : Nat} (h : CX fb w p V U C m) (ho : C.Ok k) (he : Env fb w) :
  Calls Tryz.prog 112 #[.pointer (some ⟨p, 0, none⟩)] w (OutPost fb w p V U C.lead) := by
 have hf := h.fit ho
 obtain ⟨W1, hW1⟩ : ∃ W1, W1 = ((((w.alloc (.map #[] 0)).setCell ⟨p, 7, none⟩ (.int .i64 2)).setCell ⟨p, 8, none⟩ (.int .i64 C.id)).setCell ⟨p, 13, none⟩ (.int .i64 0)).setCell ⟨p, 16, none⟩ (.map (some w.heap.size)) := ⟨_, rfl⟩
 have hto := h.leads he.le rfl
 rw [← hW1] at hto
 have hl0 : C.begins.others = C.others := rfl
 have hen1 : Env fb W1 := he.kept hto.kept h.vf
 have hot := others_any hto.cx hf ho.may hen1.ev
 have hin := fun x (hx : x ∈ C.others) => others_in ho.may hx
 have hln := others_len ho.may
 obtain ⟨l0, hl0'⟩ : ∃ l0, C.others = l0 := ⟨_, rfl⟩
 have hle := lead_eq C
 rw [hl0] at hot
 rw [hl0'] at hot hin hln hle
 have c7 : w.cell? ⟨p, 7, none⟩ = some (.int .i64 C.role) := h.bx.c 7
 have c8 : w.cell? ⟨p, 8, none⟩ = some (.int .i64 C.leader) := h.bx.c 8
 have c11 : w.cell? ⟨p, 11, none⟩ = some (.int .i64 C.id) := h.bx.c 11
 have c13 : w.cell? ⟨p, 13, none⟩ = some (.int .i64 C.gone) := h.bx.c 13
 have c16 : w.cell? ⟨p, 16, none⟩ = some (.map (some m.q)) := h.bx.c 16
 have f7 : (w.alloc (.map #[] 0)).frozen? ⟨p, 7, none⟩ = false := (h.bx.alloc _).f 7
 have f8 : (w.alloc (.map #[] 0)).frozen? ⟨p, 8, none⟩ = false := (h.bx.alloc _).f 8
 have f13 : (w.alloc (.map #[] 0)).frozen? ⟨p, 13, none⟩ = false := (h.bx.alloc _).f 13
 have f16 : (w.alloc (.map #[] 0)).frozen? ⟨p, 16, none⟩ = false := (h.bx.alloc _).f 16
 have d7 : (w.alloc (.map #[] 0)).cell? ⟨p, 7, none⟩ = some (.int .i64 C.role) := (h.bx.alloc _).c 7
 have d8 : (w.alloc (.map #[] 0)).cell? ⟨p, 8, none⟩ = some (.int .i64 C.leader) := (h.bx.alloc _).c 8
 have d13 : (w.alloc (.map #[] 0)).cell? ⟨p, 13, none⟩ = some (.int .i64 C.gone) := (h.bx.alloc _).c 13
 have d16 : (w.alloc (.map #[] 0)).cell? ⟨p, 16, none⟩ = some (.map (some m.q)) := (h.bx.alloc _).c 16
 have hmm := @run_makeMap Tryz.prog
 have HW := Lib.hid hW1
 have H := Lib.hid (And.intro hto (And.intro ho (And.intro hen1 (And.intro hin (And.intro hln (And.intro hle hf))))))
 have hhe := Lib.hid (And.intro h he)
 have Hot := Lib.hid hot
 clear hW1 hto ho hen1 hin hln hle hot hl0 hl0' hf h he
 go_enter Tryz.func112, Tryz.ntmps112
 go_upto_region 2 with (fail)
 rw [← HW.out]
 clear c7 c8 c11 c13 c16 d7 d8 d13 d16 f7 f8 f13 f16 hmm
 go_wp2_with fail
 refine Hot.out.mono ?_
 intro e w2 h2
 obtain ⟨A0, n0, c0, rfl, o0, hb2⟩ := h2
 have hl : l0.length = n0 := by have := o0.1; simpa [ii] using this
 have O := Lib.hid (And.intro o0 (And.intro hb2 hl))
 clear o0 hb2 hl
 go_wp2_with fail
 go_loopg [4, 29] n0 (fun gm s4 s29 wr => ∃ (j : Nat), gm = n0 - j ∧ j ≤ n0 ∧ s29 = .int .i64 j ∧ Kept (· = w.heap.size) w2 wr ∧ Pm wr w.heap.size (C.begins.knowL (l0.take j)).peers)
 case atStart => exact ⟨0, by omega, by omega, rfl, Kept.refl _ _, (H.out.1.cx.below O.out.2.1).pm⟩
 case round =>
  obtain ⟨j, hm, hj, rfl, hR⟩ := hrel
  have Hm := Lib.hid hm
  have R := Lib.hid hR
  clear hm hR
  by_cases hlt : j < n0
  ·have hltI : decide ((j : Int) < (n0 : Int)) = true := decide_eq_true (by omega)
   have hq1 : ∀ b, W1.heap.size ≤ b → ¬ b = w.heap.size := fun b hb e => by have := H.out.1.cx.ul _ (H.out.1.cx.vu _ H.out.1.cx.vq); have e2 : Mb.q { m with q := w.heap.size } = w.heap.size := rfl; omega
   have rd := R.out.1.rd (Rd.of_own O.out.1) hq1
   obtain ⟨b, o, x, rfl, _, _, hx, hc⟩ := ii_cell rd hlt
   have hxm : x ∈ l0 := List.mem_of_getElem? hx
   have hxi := H.out.2.2.2.1 x hxm
   have htk : l0.take (j + 1) = l0.take j ++ [x] := by rw [List.take_add_one, hx]; rfl
   have hcx : CX fb wr p (fun b => V b ∨ b = w.heap.size) (fun b => U b ∨ b = w.heap.size) (C.begins.knowL (l0.take j)) { m with q := w.heap.size } := by
    rw [knowL_eta]
    exact (H.out.1.cx.below O.out.2.1).remap R.out.1 R.out.2
   have hok : (C.begins.knowL (l0.take j)).Ok k := H.out.2.1.begins.knowL fun y hy => H.out.2.2.2.1 y (List.mem_of_mem_take hy)
   obtain ⟨Cj, hCj⟩ : ∃ Cj, C.begins.knowL (l0.take j) = Cj := ⟨_, rfl⟩
   rw [hCj] at hcx hok
   have hlast := hok.last
   have hof := of_any x hcx.drew (hcx.fit hok) hok.may (by unfold I64; omega) (by omega) (by omega)
   have c16 : ∀ W, Below wr.heap.size wr W → W.cell? ⟨p, 16, none⟩ = some (.map (some w.heap.size)) := fun W hb => (hcx.below hb).bx.c 16
   have Hof := Lib.hid hof
   have FF := Lib.hid c16
   have HC := Lib.hid (And.intro hcx (And.intro hxi (And.intro htk hCj)))
   clear rd hxm hxi htk hcx hok hCj hlast hof hx c16
   go_upto_region 5 with (fail)
   refine wp_region_S 8 (fun W => Below wr.heap.size wr W) (.take 0 (.take 1 (.take 2 (.take 3 (.take 4 (.take 5 (.take 6 (.one 7 (.one 8 (.nil)))))))))) (by kernel_rfl) (Below.refl _ _).drew (fun _ _ _ _ h => h) (fun hS => ?_)
   repeat (first
    | (refine wpS_take (v := ?_) rfl rfl (by rfl) ?_ ?_; rotate_left; (intro W hW; have hf := FF.out W hW; go_split_ands; go_simp; try with_reducible rfl); try simp only [Act.put, lyA, lyB, lyC])
    | (refine wpS_skip rfl rfl (by rfl) ?_; try simp only [Act.put, lyA, lyB, lyC]))
   refine wpS_one rfl (by rfl) (fun K hK => ?_)
   go_simp
   go_at_call 107
   refine (Hof.out).mono ?_
   rintro e w3 ⟨rfl, hb3⟩
   have hb3' : Below wr.heap.size wr w3 := (Below.refl _ _).drew.trans hb3
   obtain ⟨w4, hrun, hp4, hg4⟩ := (HC.out.1.below hb3').pm.put HC.out.2.1 (Cj.of x)
   unfold peV at hrun ⊢
   have HB3 := Lib.hid (And.intro hb3' (And.intro hp4 hg4))
   clear hb3 hp4 hg4
   refine hK (fun W => Below wr.heap.size wr W) _ _ (fun _ h => h) hb3' ?_
   clear hK K
   try simp only [Act.put, lyA, lyB, lyC]
   refine wpS_last rfl (by rfl) (fun K hK => ?_)
   go_simp
   refine hK _ _ ?_
   clear hK K
   try simp only [Act.put, lyA, lyB, lyC]
   refine wpS_nil ?_
   clear hb3' hS
   have hj4 : j < 7 := by have := O.out.2.2; have := H.out.2.2.2.2.1; omega
   go_wp2_with fail
   go_roundg (n0 - (j + 1))
   case measure => have := Hm.out; omega
   case rel =>
    refine ⟨j + 1, rfl, by omega, rfl, R.out.1.trans ((Kept.of_new HB3.out.1).grown HB3.out.2.2 fun b e => by injection e with e; exact e.symm) fun b _ e => e, ?_⟩
    rw [HC.out.2.2.1, knowL_snoc, HC.out.2.2.2]
    exact HB3.out.2.1
  ·have hltI : decide ((j : Int) < (n0 : Int)) = false := decide_eq_false (by omega)
   obtain rfl : j = n0 := by omega
   have e1 : l0.take j = l0 := List.take_of_length_le (by have := O.out.2.2; omega)
   have hR := R.out
   rw [e1] at hR
   have hto : CTo fb w p V U (C.begins.knowL l0) wr (fun b => V b ∨ b = w.heap.size) (fun b => U b ∨ b = w.heap.size) { m with q := w.heap.size } := by
    rw [knowL_eta]
    exact (H.out.1.below O.out.2.1).remap hR.1 hR.2
   have hok : (C.begins.knowL l0).Ok k := H.out.2.1.begins.knowL H.out.2.2.2.1
   have hen : Env fb wr := by
    have hh := hhe.out
    exact hh.2.kept hto.kept hh.1.vf
   have hhl : ∀ C : Cr, (C.begins.knowL l0).s = C.s := fun C => by rw [knowL_eta]; rfl
   have es := hhl C
   obtain ⟨Ck, hCk⟩ : ∃ Ck, C.begins.knowL l0 = Ck := ⟨_, rfl⟩
   have hle := H.out.2.2.2.2.2.1
   rw [hCk] at hto hok es hle
   obtain ⟨M, hM⟩ : ∃ M : Mb, M = { m with q := w.heap.size } := ⟨_, rfl⟩
   rw [← hM] at hto
   have hcx := hto.cx
   have hfit := hcx.fit hok
   obtain ⟨s1, s2, s3, s4, s5, s6, s7⟩ := hcx.s_eq
   have hadd := fun W (hb : Below wr.heap.size wr W) => add_all M.s.b M.s.t C.s.tm 0 M.s.A M.s.n M.s.c M.s.L none 0 0 [] W (hcx.below hb).at_.l.any (hcx.below hb).at_.dat (hcx.at_.wel hfit) (fun x hx => (hfit.w x hx).2) (hcx.lm hok.may) Rd.none_
   have er : addL M.s.b M.s.t (M.s.L.map en) C.s.tm 0 [] = addL C.s.b C.s.t C.s.l C.s.tm 0 [] := by rw [s3, s4, s5, es]
   rw [er] at hadd
   obtain ⟨r, hr⟩ : ∃ r, addL C.s.b C.s.t C.s.l C.s.tm 0 [] = r := ⟨_, rfl⟩
   have hgrow : r.1 = 0 → (Ck.withLog r.2).Ok k ∧ r.2 = Ck.s.l ++ [⟨lstA Ck.s.b Ck.s.l + 1, Ck.s.tm, 0, []⟩] := fun h0 => by
    have h1 : (addL Ck.s.b Ck.s.t Ck.s.l Ck.s.tm 0 []).1 = 0 := by rw [es, hr]; exact h0
    have h2 := hok.grow (kd := 0) (d := []) (by decide) h1
    have h3 := (addL_may (kd := 0) (d := []) hok.may (by decide) h1).2
    rw [es, hr] at h2 h3
    exact ⟨h2, by rw [es]; exact h3⟩
   rw [hr] at hadd hle
   have F : ∀ W, Below wr.heap.size wr W → W.cell? ⟨p, 2, none⟩ = some (.int .i64 M.s.b) ∧ W.cell? ⟨p, 3, none⟩ = some (.int .i64 M.s.t) ∧ W.cell? ⟨p, 4, none⟩ = some (.slice M.s.A M.s.n M.s.c) ∧ W.cell? ⟨p, 0, none⟩ = some (.int .i64 C.s.tm) := fun W hb =>
    ⟨(hcx.below hb).bx.c 2, (hcx.below hb).bx.c 3, (hcx.below hb).bx.c 4, by rw [← es, ← s1]; exact (hcx.below hb).bx.c 0⟩
   have FF := Lib.hid F
   have Hadd := Lib.hid hadd
   have HT := Lib.hid (And.intro hto (And.intro hok (And.intro hen (And.intro hgrow (And.intro hle (And.intro s3 (And.intro s4 (And.intro s5 es))))))))
   clear hR R hto hok hen hhl es hCk hle hM hcx hfit s1 s2 s3 s4 s5 s6 s7 hadd er hr hgrow F O Hot HW e1 Hm
   go_upto_region 7 with (fail)
   by_cases h0 : r.1 = 0
   ·refine wp_region_S 16 (fun W => Below wr.heap.size wr W) (.take 0 (.take 1 (.take 2 (.take 3 (.take 4 (.take 5 (.take 6 (.take 7 (.take 8 (.take 9 (.two 10 14 (.take 11 (.take 12 (.take 13 (.one 14 (.one 15 (.one 16 (.nil))))))) (.one 10 (.take 11 (.take 12 (.take 13 (.one 15 (.one 16 (.nil)))))))))))))))))) (by kernel_rfl) (Below.refl _ _).drew (fun _ _ _ _ h => h) (fun hS => ?_)
    repeat (first
     | (refine wpS_take (v := ?_) rfl rfl (by rfl) ?_ ?_; rotate_left; (intro W hW; have hf := FF.out W hW; go_split_ands; go_simp; try with_reducible rfl); try simp only [Act.put, lyA, lyB, lyC])
     | (refine wpS_skip rfl rfl (by rfl) ?_; try simp only [Act.put, lyA, lyB, lyC]))
    refine wpS_two rfl rfl (by rfl) (by rfl) (fun K hK => ?_) (fun K hK => ?_)
    ·go_simp
     go_at_call 54
     refine (Hadd.out _ (Below.refl _ _).drew).mono ?_
     intro e w5 h5
     unfold AddAll at h5
     rw [if_pos h0] at h5
     obtain ⟨A5, c5, L5, rfl, r5, d5, m5, k5, k6, hb5⟩ := h5
     have hS5 : Below wr.heap.size wr w5 := ((Below.refl _ _).drew).trans (hb5.mono (Nat.le_refl _))
     have N5 := Lib.hid (And.intro r5 (And.intro d5 (And.intro m5 (And.intro k5 k6))))
     clear r5 d5 m5
     clear hb5
     refine hK (fun W => Below wr.heap.size wr W) _ _ (fun _ h => h) hS5 ?_
     clear hK K
     try simp only [Act.put, lyA, lyB, lyC]
     repeat (first
      | (refine wpS_take (v := ?_) rfl rfl (by rfl) ?_ ?_; rotate_left; (intro W hW; have hf := FF.out W hW; go_split_ands; go_simp; try with_reducible rfl); try simp only [Act.put, lyA, lyB, lyC])
      | (refine wpS_skip rfl rfl (by rfl) ?_; try simp only [Act.put, lyA, lyB, lyC]))
     refine wpS_one rfl (by rfl) (fun K hK => ?_)
     go_simp
     obtain ⟨va, hva⟩ : ∃ va, va = World.alloc w5 (.cells #[.int .i64 0, .int .i64 0, .slice none 0 0] 38) := ⟨_, rfl⟩
     obtain ⟨gx, hgx⟩ : ∃ g, g = (World.heap w5).size := ⟨_, rfl⟩
     have bxa : Bx va gx #[.int .i64 0, .int .i64 0, .slice none 0 0] := by subst hva hgx; exact Bx.new _ _ _ rfl
     have hbva : Below wr.heap.size wr va := by subst hva; exact (hS5).alloc (hS5).size _
     have hzx : wr.heap.size ≤ gx ∧ gx < va.heap.size ∧ (World.heap w5).size = gx := by subst hva hgx; exact ⟨(hS5).size, by simp, rfl⟩
     have hal : Below gx w5 va := by subst hva hgx; exact (Below.refl _ _).alloc (Nat.le_refl _) _
     rw [← hva]
     try rw [← hgx]
     clear hva hgx
     refine hK (fun W => Below wr.heap.size wr W) _ _ (fun _ h => h) hbva ?_
     clear hK K
     try simp only [Act.put, lyA, lyB, lyC]
     obtain ⟨q0, q1, q2, p0, p1, p2⟩ := bxa.c3
     refine wpS_one rfl (by rfl) (fun K hK => ?_)
     go_simp
     obtain ⟨W7, hW7⟩ : ∃ W7, W7 = ((va.setCell ⟨gx, 0, none⟩ (.int .i64 M.s.b)).setCell ⟨gx, 1, none⟩ (.int .i64 M.s.t)).setCell ⟨gx, 2, none⟩ (.slice A5 (M.s.n + 1) c5) := ⟨_, rfl⟩
     have b7 : Bx W7 gx #[.int .i64 M.s.b, .int .i64 M.s.t, .slice A5 (M.s.n + 1) c5] := by subst hW7; exact ((bxa.set 0 _).set 1 _).set 2 _
     have hb7 : Below wr.heap.size wr W7 := by subst hW7; exact ((hbva.setCell (p := ⟨gx, 0, none⟩) hzx.1 _).setCell (p := ⟨gx, 1, none⟩) hzx.1 _).setCell (p := ⟨gx, 2, none⟩) hzx.1 _
     have hk5 : ∀ b, wr.drew.heap.size ≤ b → b < w5.heap.size → W7.heap[b]? = w5.heap[b]? := fun b _ hb => by
      have hne : b ≠ gx := by have := hzx.2.2; omega
      subst hW7
      iterate 3 refine (Below.heap_setCell _ _ _ b hne).trans ?_
      exact hal.block b (by have := hzx.2.2; omega)
     have r7 : Rd W7 (wr.heap.size ≤ ·) 4 A5 (M.s.n + 1) (flat ecell L5) := (N5.out.1.keep (w' := W7) (fun b hb hl => hk5 b hb hl)).mono fun b hb => (hb : wr.heap.size ≤ b)
     have d7 : ∀ y ∈ L5, Rd W7 (wr.heap.size ≤ ·) 1 y.A y.n (bs y.d) ∧ y.n ≤ y.m ∧ y.m ≤ maxLen := fun y hy => ⟨((N5.out.2.1 y hy).1.keep (w' := W7) (fun b hb hl => hk5 b hb hl)).mono fun b hb => (hb : wr.heap.size ≤ b), (N5.out.2.1 y hy).2⟩
     rw [← hW7]
     have K7 := Lib.hid (And.intro b7 hb7)
     have N7 := Lib.hid (And.intro r7 d7)
     clear r7 d7
     clear hk5
     clear hW7 b7 hb7
     refine hK (fun W => Below wr.heap.size wr W) _ _ (fun _ h => h) K7.out.2 ?_
     clear hK K q0 q1 q2 p0 p1 p2
     try simp only [Act.put, lyA, lyB, lyC]
     refine wpS_last rfl (by rfl) (fun K hK => ?_)
     go_simp
     refine hK _ _ ?_
     clear hK K
     try simp only [Act.put, lyA, lyB, lyC]
     refine wpS_nil ?_
     have hu7 : ∀ b, wr.heap.size ≤ b → ¬ (U b ∨ b = w.heap.size) := fun b hb hu => by have := HT.out.1.cx.ul b hu; omega
     have hto8 := (HT.out.1.below K7.out.2).logged (A := A5) (n := M.s.n + 1) (c := c5) (L := L5) (N7.out.1.mono hu7) (fun y hy => ⟨(N7.out.2 y hy).1.mono hu7, (N7.out.2 y hy).2⟩) ⟨N5.out.2.2.2.1, N5.out.2.2.2.2⟩
     have e5 : L5.map en = r.2 := by
      rw [(HT.out.2.2.2.1 h0).2, N5.out.2.2.1, HT.out.2.2.2.2.2.1, HT.out.2.2.2.2.2.2.2.1, HT.out.2.2.2.2.2.2.2.2]
     rw [e5] at hto8
     have q2 : W7.cell? ⟨p, 2, none⟩ = some (.int .i64 M.s.b) := (HT.out.1.below K7.out.2).cx.bx.c 2
     have q3 : W7.cell? ⟨p, 3, none⟩ = some (.int .i64 M.s.t) := (HT.out.1.below K7.out.2).cx.bx.c 3
     have q4 : W7.cell? ⟨p, 4, none⟩ = some (.slice M.s.A M.s.n M.s.c) := (HT.out.1.below K7.out.2).cx.bx.c 4
     have p2 := (HT.out.1.below K7.out.2).cx.bx.f 2
     have p3 := (HT.out.1.below K7.out.2).cx.bx.f 3
     have p4 := (HT.out.1.below K7.out.2).cx.bx.f 4
     obtain ⟨z0, z1, z2, _, _, _⟩ := K7.out.1.c3
     obtain ⟨W8, hW8⟩ : ∃ W8, W8 = ((W7.setCell ⟨p, 2, none⟩ (.int .i64 M.s.b)).setCell ⟨p, 3, none⟩ (.int .i64 M.s.t)).setCell ⟨p, 4, none⟩ (.slice A5 (M.s.n + 1) c5) := ⟨_, rfl⟩
     rw [← hW8] at hto8
     have hok8 : (Ck.withLog r.2).Ok k := (HT.out.2.2.2.1 h0).1
     have hen8 : Env fb W8 := by have hh := hhe.out; exact hh.2.kept hto8.kept hh.1.vf
     have hal8 := sendAll_any hto8.cx hok8 hen8
     have T8 := Lib.hid (And.intro hto8 (And.intro hok8 hen8))
     have Hal8 := Lib.hid hal8
     clear hto8 hok8 hen8 hal8 e5 hu7
     go_upto_region 12 with (fail)
     rw [← hW8]
     clear q2 q3 q4 p2 p3 p4 z0 z1 z2 hW8
     go_wp2_with fail
     refine Hal8.out.mono ?_
     intro e w9 h9
     obtain ⟨A9, n9, c9, X9, rfl, r9, m9, x9, k9⟩ := h9
     have hwid := T8.out.1.cx.widen x9 k9 (N := fun b => A9.map (·.block) = some b) (own_lt r9.ow) (sendAll_keep _).1 (sendAll_keep _).2
     have hen9 : Env fb w9 := T8.out.2.2.kept k9 fun b e => by rw [e]; exact T8.out.1.cx.vf _ T8.out.1.cx.vq
     have hadv := advance_any hwid T8.out.2.1.sendAll hen9
     have h9n : n9 ≤ 7 := by
      have h1 := r9.len
      have h2 := congrArg List.length m9
      rw [List.length_map, h1, sendAll_len] at h2
      have := others_len T8.out.2.1.may
      omega
     have K9 := Lib.hid (And.intro r9 (And.intro m9 (And.intro x9 k9)))
     have Hadv := Lib.hid hadv
     clear r9 m9 x9 k9 hwid hen9 hadv
     go_wp2_with fail
     refine Hadv.out.mono ?_
     intro e w10 h10
     obtain ⟨A10, n10, c10, X10, V10, U10, M10, rfl, r10, m10, u10, t10⟩ := h10
     have h10n : n10 ≤ 7 := by
      have h1 := r10.len
      have h2 := congrArg List.length m10
      rw [List.length_map, h1] at h2
      have := advance_len T8.out.2.1.sendAll
      omega
     have r9' : Rm w10 W8.heap.size A9 n9 c9 X9 := K9.out.1.kept t10.kept fun b hb => T8.out.1.cx.ul b (T8.out.1.cx.vu b hb)
     have hz10 : W8.heap.size ≤ w10.heap.size := Nat.le_trans K9.out.2.2.2.size t10.kept.size
     have K10 := Lib.hid (And.intro r10 (And.intro m10 (And.intro u10 (And.intro t10 r9'))))
     clear r10 m10 u10 t10 r9'
     go_wp2_with (at_builtin; refine wpList_append_any _ Tryz.underlying54 msg_elem rfl (by omega) rfl rfl rfl K10.out.2.2.2.2.ow rfl (Rd.of_own K10.out.1.ow).any (mcell_one X10) (by omega) hz10 rfl rfl ?_; intro A11 c11 w11 hown11 hg11 hat11)
     go_ret
     obtain ⟨j1, j2, j3⟩ := join_out T8.out.1.cx K9.out.1 K9.out.2.2.2 K10.out.1 K10.out.2.2.1 K10.out.2.2.2.1 hown11 hg11 hat11
     rw [HT.out.2.2.2.2.1, if_pos h0]
     refine OutPost.up T8.out.1 ⟨A11, n9 + n10, c11, X9 ++ X10, V10, U10, M10, rfl, j1, ?_, j2, j3⟩
     rw [List.map_append, K9.out.2.1, K10.out.2.1]
     rfl
    ·go_simp
     obtain ⟨va, hva⟩ : ∃ va, va = (World.alloc wr (.cells #[.int .i64 0, .int .i64 0, .slice none 0 0] 38)).drew := ⟨_, rfl⟩
     obtain ⟨gx, hgx⟩ : ∃ g, g = wr.heap.size := ⟨_, rfl⟩
     have bxa : Bx va gx #[.int .i64 0, .int .i64 0, .slice none 0 0] := by subst hva hgx; exact (Bx.new _ _ _ rfl).drew
     have hbva : Below wr.heap.size wr va := by subst hva; exact ((Below.refl _ _).alloc (Nat.le_refl _) _).drew
     have hzx : wr.heap.size ≤ gx ∧ gx < va.heap.size ∧ wr.heap.size = gx := by subst hva hgx; exact ⟨Nat.le_refl _, by simp [World.drew], rfl⟩
     try rw [← hgx]
     rw [← hva]
     clear hva hgx
     refine hK (fun W => Below wr.heap.size wr W) _ _ (fun _ h => h) hbva ?_
     clear hK K
     try simp only [Act.put, lyA, lyB, lyC]
     refine wpS_one rfl (by rfl) (fun K hK => ?_)
     go_simp
     go_at_call 54
     refine (Hadd.out _ hbva).mono ?_
     intro e w5 h5
     unfold AddAll at h5
     rw [if_pos h0] at h5
     obtain ⟨A5, c5, L5, rfl, r5, d5, m5, k5, k6, hb5⟩ := h5
     have hS5 : Below wr.heap.size wr w5 := (hbva).trans (hb5.mono hbva.size)
     have bx5 := bxa.below hb5
     have N5 := Lib.hid (And.intro r5 (And.intro d5 (And.intro m5 (And.intro k5 k6))))
     clear r5 d5 m5
     clear hb5
     refine hK (fun W => Below wr.heap.size wr W) _ _ (fun _ h => h) hS5 ?_
     clear hK K
     try simp only [Act.put, lyA, lyB, lyC]
     repeat (first
      | (refine wpS_take (v := ?_) rfl rfl (by rfl) ?_ ?_; rotate_left; (intro W hW; have hf := FF.out W hW; go_split_ands; go_simp; try with_reducible rfl); try simp only [Act.put, lyA, lyB, lyC])
      | (refine wpS_skip rfl rfl (by rfl) ?_; try simp only [Act.put, lyA, lyB, lyC]))
     obtain ⟨q0, q1, q2, p0, p1, p2⟩ := bx5.c3
     refine wpS_one rfl (by rfl) (fun K hK => ?_)
     go_simp
     obtain ⟨W7, hW7⟩ : ∃ W7, W7 = ((w5.setCell ⟨gx, 0, none⟩ (.int .i64 M.s.b)).setCell ⟨gx, 1, none⟩ (.int .i64 M.s.t)).setCell ⟨gx, 2, none⟩ (.slice A5 (M.s.n + 1) c5) := ⟨_, rfl⟩
     have b7 : Bx W7 gx #[.int .i64 M.s.b, .int .i64 M.s.t, .slice A5 (M.s.n + 1) c5] := by subst hW7; exact ((bx5.set 0 _).set 1 _).set 2 _
     have hb7 : Below wr.heap.size wr W7 := by subst hW7; exact ((hS5.setCell (p := ⟨gx, 0, none⟩) hzx.1 _).setCell (p := ⟨gx, 1, none⟩) hzx.1 _).setCell (p := ⟨gx, 2, none⟩) hzx.1 _
     have hk5 : ∀ b, va.heap.size ≤ b → W7.heap[b]? = w5.heap[b]? := fun b hb => by
      have hne : b ≠ gx := by have := hzx.2.1; omega
      subst hW7
      iterate 3 refine (Below.heap_setCell _ _ _ b hne).trans ?_
      rfl
     have r7 : Rd W7 (wr.heap.size ≤ ·) 4 A5 (M.s.n + 1) (flat ecell L5) := (N5.out.1.keep (w' := W7) (fun b hb _ => hk5 b hb)).mono fun b hb => (by have := hbva.size; omega : wr.heap.size ≤ b)
     have d7 : ∀ y ∈ L5, Rd W7 (wr.heap.size ≤ ·) 1 y.A y.n (bs y.d) ∧ y.n ≤ y.m ∧ y.m ≤ maxLen := fun y hy => ⟨((N5.out.2.1 y hy).1.keep (w' := W7) (fun b hb _ => hk5 b hb)).mono fun b hb => (by have := hbva.size; omega : wr.heap.size ≤ b), (N5.out.2.1 y hy).2⟩
     rw [← hW7]
     have K7 := Lib.hid (And.intro b7 hb7)
     have N7 := Lib.hid (And.intro r7 d7)
     clear r7 d7
     clear hk5
     clear hW7 b7 hb7
     refine hK (fun W => Below wr.heap.size wr W) _ _ (fun _ h => h) K7.out.2 ?_
     clear hK K q0 q1 q2 p0 p1 p2
     try simp only [Act.put, lyA, lyB, lyC]
     refine wpS_last rfl (by rfl) (fun K hK => ?_)
     go_simp
     refine hK _ _ ?_
     clear hK K
     try simp only [Act.put, lyA, lyB, lyC]
     refine wpS_nil ?_
     have hu7 : ∀ b, wr.heap.size ≤ b → ¬ (U b ∨ b = w.heap.size) := fun b hb hu => by have := HT.out.1.cx.ul b hu; omega
     have hto8 := (HT.out.1.below K7.out.2).logged (A := A5) (n := M.s.n + 1) (c := c5) (L := L5) (N7.out.1.mono hu7) (fun y hy => ⟨(N7.out.2 y hy).1.mono hu7, (N7.out.2 y hy).2⟩) ⟨N5.out.2.2.2.1, N5.out.2.2.2.2⟩
     have e5 : L5.map en = r.2 := by
      rw [(HT.out.2.2.2.1 h0).2, N5.out.2.2.1, HT.out.2.2.2.2.2.1, HT.out.2.2.2.2.2.2.2.1, HT.out.2.2.2.2.2.2.2.2]
     rw [e5] at hto8
     have q2 : W7.cell? ⟨p, 2, none⟩ = some (.int .i64 M.s.b) := (HT.out.1.below K7.out.2).cx.bx.c 2
     have q3 : W7.cell? ⟨p, 3, none⟩ = some (.int .i64 M.s.t) := (HT.out.1.below K7.out.2).cx.bx.c 3
     have q4 : W7.cell? ⟨p, 4, none⟩ = some (.slice M.s.A M.s.n M.s.c) := (HT.out.1.below K7.out.2).cx.bx.c 4
     have p2 := (HT.out.1.below K7.out.2).cx.bx.f 2
     have p3 := (HT.out.1.below K7.out.2).cx.bx.f 3
     have p4 := (HT.out.1.below K7.out.2).cx.bx.f 4
     obtain ⟨z0, z1, z2, _, _, _⟩ := K7.out.1.c3
     obtain ⟨W8, hW8⟩ : ∃ W8, W8 = ((W7.setCell ⟨p, 2, none⟩ (.int .i64 M.s.b)).setCell ⟨p, 3, none⟩ (.int .i64 M.s.t)).setCell ⟨p, 4, none⟩ (.slice A5 (M.s.n + 1) c5) := ⟨_, rfl⟩
     rw [← hW8] at hto8
     have hok8 : (Ck.withLog r.2).Ok k := (HT.out.2.2.2.1 h0).1
     have hen8 : Env fb W8 := by have hh := hhe.out; exact hh.2.kept hto8.kept hh.1.vf
     have hal8 := sendAll_any hto8.cx hok8 hen8
     have T8 := Lib.hid (And.intro hto8 (And.intro hok8 hen8))
     have Hal8 := Lib.hid hal8
     clear hto8 hok8 hen8 hal8 e5 hu7
     go_upto_region 12 with (fail)
     rw [← hW8]
     clear q2 q3 q4 p2 p3 p4 z0 z1 z2 hW8
     go_wp2_with fail
     refine Hal8.out.mono ?_
     intro e w9 h9
     obtain ⟨A9, n9, c9, X9, rfl, r9, m9, x9, k9⟩ := h9
     have hwid := T8.out.1.cx.widen x9 k9 (N := fun b => A9.map (·.block) = some b) (own_lt r9.ow) (sendAll_keep _).1 (sendAll_keep _).2
     have hen9 : Env fb w9 := T8.out.2.2.kept k9 fun b e => by rw [e]; exact T8.out.1.cx.vf _ T8.out.1.cx.vq
     have hadv := advance_any hwid T8.out.2.1.sendAll hen9
     have h9n : n9 ≤ 7 := by
      have h1 := r9.len
      have h2 := congrArg List.length m9
      rw [List.length_map, h1, sendAll_len] at h2
      have := others_len T8.out.2.1.may
      omega
     have K9 := Lib.hid (And.intro r9 (And.intro m9 (And.intro x9 k9)))
     have Hadv := Lib.hid hadv
     clear r9 m9 x9 k9 hwid hen9 hadv
     go_wp2_with fail
     refine Hadv.out.mono ?_
     intro e w10 h10
     obtain ⟨A10, n10, c10, X10, V10, U10, M10, rfl, r10, m10, u10, t10⟩ := h10
     have h10n : n10 ≤ 7 := by
      have h1 := r10.len
      have h2 := congrArg List.length m10
      rw [List.length_map, h1] at h2
      have := advance_len T8.out.2.1.sendAll
      omega
     have r9' : Rm w10 W8.heap.size A9 n9 c9 X9 := K9.out.1.kept t10.kept fun b hb => T8.out.1.cx.ul b (T8.out.1.cx.vu b hb)
     have hz10 : W8.heap.size ≤ w10.heap.size := Nat.le_trans K9.out.2.2.2.size t10.kept.size
     have K10 := Lib.hid (And.intro r10 (And.intro m10 (And.intro u10 (And.intro t10 r9'))))
     clear r10 m10 u10 t10 r9'
     go_wp2_with (at_builtin; refine wpList_append_any _ Tryz.underlying54 msg_elem rfl (by omega) rfl rfl rfl K10.out.2.2.2.2.ow rfl (Rd.of_own K10.out.1.ow).any (mcell_one X10) (by omega) hz10 rfl rfl ?_; intro A11 c11 w11 hown11 hg11 hat11)
     go_ret
     obtain ⟨j1, j2, j3⟩ := join_out T8.out.1.cx K9.out.1 K9.out.2.2.2 K10.out.1 K10.out.2.2.1 K10.out.2.2.2.1 hown11 hg11 hat11
     rw [HT.out.2.2.2.2.1, if_pos h0]
     refine OutPost.up T8.out.1 ⟨A11, n9 + n10, c11, X9 ++ X10, V10, U10, M10, rfl, j1, ?_, j2, j3⟩
     rw [List.map_append, K9.out.2.1, K10.out.2.1]
     rfl
   ·refine wp_region_S 16 (fun W => Below wr.heap.size wr W) (.take 0 (.take 1 (.take 2 (.take 3 (.take 4 (.take 5 (.take 6 (.take 7 (.take 8 (.take 9 (.two 10 14 (.take 11 (.take 12 (.take 13 (.one 14 (.one 15 (.one 16 (.nil))))))) (.one 10 (.take 11 (.take 12 (.take 13 (.one 15 (.one 16 (.nil)))))))))))))))))) (by kernel_rfl) (Below.refl _ _).drew (fun _ _ _ _ h => h) (fun hS => ?_)
    repeat (first
     | (refine wpS_take (v := ?_) rfl rfl (by rfl) ?_ ?_; rotate_left; (intro W hW; have hf := FF.out W hW; go_split_ands; go_simp; try with_reducible rfl); try simp only [Act.put, lyA, lyB, lyC])
     | (refine wpS_skip rfl rfl (by rfl) ?_; try simp only [Act.put, lyA, lyB, lyC]))
    refine wpS_two rfl rfl (by rfl) (by rfl) (fun K hK => ?_) (fun K hK => ?_)
    ·go_simp
     go_at_call 54
     refine (Hadd.out _ (Below.refl _ _).drew).mono ?_
     intro e w5 h5
     unfold AddAll at h5
     rw [if_neg h0] at h5
     obtain ⟨rfl, hb5⟩ := h5
     have hS5 : Below wr.heap.size wr w5 := ((Below.refl _ _).drew).trans (hb5.mono (Nat.le_refl _))
     clear hb5
     refine hK (fun W => Below wr.heap.size wr W) _ _ (fun _ h => h) hS5 ?_
     clear hK K
     try simp only [Act.put, lyA, lyB, lyC]
     repeat (first
      | (refine wpS_take (v := ?_) rfl rfl (by rfl) ?_ ?_; rotate_left; (intro W hW; have hf := FF.out W hW; go_split_ands; go_simp; try with_reducible rfl); try simp only [Act.put, lyA, lyB, lyC])
      | (refine wpS_skip rfl rfl (by rfl) ?_; try simp only [Act.put, lyA, lyB, lyC]))
     refine wpS_one rfl (by rfl) (fun K hK => ?_)
     go_simp
     obtain ⟨va, hva⟩ : ∃ va, va = World.alloc w5 (.cells #[.int .i64 0, .int .i64 0, .slice none 0 0] 38) := ⟨_, rfl⟩
     obtain ⟨gx, hgx⟩ : ∃ g, g = (World.heap w5).size := ⟨_, rfl⟩
     have bxa : Bx va gx #[.int .i64 0, .int .i64 0, .slice none 0 0] := by subst hva hgx; exact Bx.new _ _ _ rfl
     have hbva : Below wr.heap.size wr va := by subst hva; exact (hS5).alloc (hS5).size _
     have hzx : wr.heap.size ≤ gx ∧ gx < va.heap.size ∧ (World.heap w5).size = gx := by subst hva hgx; exact ⟨(hS5).size, by simp, rfl⟩
     have hal : Below gx w5 va := by subst hva hgx; exact (Below.refl _ _).alloc (Nat.le_refl _) _
     rw [← hva]
     try rw [← hgx]
     clear hva hgx
     refine hK (fun W => Below wr.heap.size wr W) _ _ (fun _ h => h) hbva ?_
     clear hK K
     try simp only [Act.put, lyA, lyB, lyC]
     obtain ⟨q0, q1, q2, p0, p1, p2⟩ := bxa.c3
     refine wpS_one rfl (by rfl) (fun K hK => ?_)
     go_simp
     obtain ⟨W7, hW7⟩ : ∃ W7, W7 = ((va.setCell ⟨gx, 0, none⟩ (.int .i64 0)).setCell ⟨gx, 1, none⟩ (.int .i64 0)).setCell ⟨gx, 2, none⟩ (.slice none 0 0) := ⟨_, rfl⟩
     have b7 : Bx W7 gx #[.int .i64 0, .int .i64 0, .slice none 0 0] := by subst hW7; exact ((bxa.set 0 _).set 1 _).set 2 _
     have hb7 : Below wr.heap.size wr W7 := by subst hW7; exact ((hbva.setCell (p := ⟨gx, 0, none⟩) hzx.1 _).setCell (p := ⟨gx, 1, none⟩) hzx.1 _).setCell (p := ⟨gx, 2, none⟩) hzx.1 _
     rw [← hW7]
     have K7 := Lib.hid (And.intro b7 hb7)
     clear hW7 b7 hb7
     refine hK (fun W => Below wr.heap.size wr W) _ _ (fun _ h => h) K7.out.2 ?_
     clear hK K q0 q1 q2 p0 p1 p2
     try simp only [Act.put, lyA, lyB, lyC]
     refine wpS_last rfl (by rfl) (fun K hK => ?_)
     go_simp
     refine hK _ _ ?_
     clear hK K
     try simp only [Act.put, lyA, lyB, lyC]
     refine wpS_nil ?_
     have hfo := follow_any 0 (HT.out.1.below K7.out.2).cx
     have Hfo := Lib.hid hfo
     clear hfo
     go_wp2_with fail
     refine Hfo.out.mono ?_
     rintro e w9 ⟨rfl, hto9⟩
     have T9 := Lib.hid hto9
     clear hto9
     go_wp2_with fail
     go_ret
     rw [HT.out.2.2.2.2.1, if_neg h0]
     exact outNil ((HT.out.1.below K7.out.2).trans T9.out)
    ·go_simp
     obtain ⟨va, hva⟩ : ∃ va, va = (World.alloc wr (.cells #[.int .i64 0, .int .i64 0, .slice none 0 0] 38)).drew := ⟨_, rfl⟩
     obtain ⟨gx, hgx⟩ : ∃ g, g = wr.heap.size := ⟨_, rfl⟩
     have bxa : Bx va gx #[.int .i64 0, .int .i64 0, .slice none 0 0] := by subst hva hgx; exact (Bx.new _ _ _ rfl).drew
     have hbva : Below wr.heap.size wr va := by subst hva; exact ((Below.refl _ _).alloc (Nat.le_refl _) _).drew
     have hzx : wr.heap.size ≤ gx ∧ gx < va.heap.size ∧ wr.heap.size = gx := by subst hva hgx; exact ⟨Nat.le_refl _, by simp [World.drew], rfl⟩
     try rw [← hgx]
     rw [← hva]
     clear hva hgx
     refine hK (fun W => Below wr.heap.size wr W) _ _ (fun _ h => h) hbva ?_
     clear hK K
     try simp only [Act.put, lyA, lyB, lyC]
     refine wpS_one rfl (by rfl) (fun K hK => ?_)
     go_simp
     go_at_call 54
     refine (Hadd.out _ hbva).mono ?_
     intro e w5 h5
     unfold AddAll at h5
     rw [if_neg h0] at h5
     obtain ⟨rfl, hb5⟩ := h5
     have hS5 : Below wr.heap.size wr w5 := (hbva).trans (hb5.mono hbva.size)
     have bx5 := bxa.below hb5
     clear hb5
     refine hK (fun W => Below wr.heap.size wr W) _ _ (fun _ h => h) hS5 ?_
     clear hK K
     try simp only [Act.put, lyA, lyB, lyC]
     repeat (first
      | (refine wpS_take (v := ?_) rfl rfl (by rfl) ?_ ?_; rotate_left; (intro W hW; have hf := FF.out W hW; go_split_ands; go_simp; try with_reducible rfl); try simp only [Act.put, lyA, lyB, lyC])
      | (refine wpS_skip rfl rfl (by rfl) ?_; try simp only [Act.put, lyA, lyB, lyC]))
     obtain ⟨q0, q1, q2, p0, p1, p2⟩ := bx5.c3
     refine wpS_one rfl (by rfl) (fun K hK => ?_)
     go_simp
     obtain ⟨W7, hW7⟩ : ∃ W7, W7 = ((w5.setCell ⟨gx, 0, none⟩ (.int .i64 0)).setCell ⟨gx, 1, none⟩ (.int .i64 0)).setCell ⟨gx, 2, none⟩ (.slice none 0 0) := ⟨_, rfl⟩
     have b7 : Bx W7 gx #[.int .i64 0, .int .i64 0, .slice none 0 0] := by subst hW7; exact ((bx5.set 0 _).set 1 _).set 2 _
     have hb7 : Below wr.heap.size wr W7 := by subst hW7; exact ((hS5.setCell (p := ⟨gx, 0, none⟩) hzx.1 _).setCell (p := ⟨gx, 1, none⟩) hzx.1 _).setCell (p := ⟨gx, 2, none⟩) hzx.1 _
     rw [← hW7]
     have K7 := Lib.hid (And.intro b7 hb7)
     clear hW7 b7 hb7
     refine hK (fun W => Below wr.heap.size wr W) _ _ (fun _ h => h) K7.out.2 ?_
     clear hK K q0 q1 q2 p0 p1 p2
     try simp only [Act.put, lyA, lyB, lyC]
     refine wpS_last rfl (by rfl) (fun K hK => ?_)
     go_simp
     refine hK _ _ ?_
     clear hK K
     try simp only [Act.put, lyA, lyB, lyC]
     refine wpS_nil ?_
     have hfo := follow_any 0 (HT.out.1.below K7.out.2).cx
     have Hfo := Lib.hid hfo
     clear hfo
     go_wp2_with fail
     refine Hfo.out.mono ?_
     rintro e w9 ⟨rfl, hto9⟩
     have T9 := Lib.hid hto9
     clear hto9
     go_wp2_with fail
     go_ret
     rw [HT.out.2.2.2.2.1, if_neg h0]
     exact outNil ((HT.out.1.below K7.out.2).trans T9.out)
set_option maxHeartbeats 12800000 in
theorem cmayC_any {fb p : Nat} {w : World} {V U : Nat → Prop} {C : Cr} {m : Mb} {k : Nat} (h : CX fb w p V U C m) (ho : C.Ok k) (he : Env fb w) :
  Calls Tryz.prog 51 #[.pointer (some ⟨p, 0, none⟩)] w (BoolPost w C.may) := by
 have hf := h.fit ho
 have hmb := members_any h.drew hf ho.may he.drew.ev
 have hln := (cmay_iff.1 (members_may ho.may)).2.2.2
 have F : ∀ W, Below w.heap.size w W → W.cell? ⟨p, 11, none⟩ = some (.int .i64 C.id) := fun W hb => (h.below hb).bx.c 11
 have hcl := fun W (hb : Below w.heap.size w W) => clast_any (h.below hb) hf ho.may
 have hme := fun W (hb : Below w.heap.size w W) => member_any p C.last m.s.A m.s.n m.s.c m.s.L W ((h.below hb).bx.c 4) (h.below hb).at_.l hf.z.1
 have hup := fun ix W (hb : Below w.heap.size w W) => upto_any ix (h.below hb) hf (he.new hb).ev
 have hul := fun ix => (cmay_iff.1 (upto_may ho.may ix)).2.2.2
 have c9 : ∀ W, Below w.heap.size w W → W.cell? ⟨p, 9, none⟩ = some (.int .i64 C.commit) := fun W hb => (h.below hb).bx.c 9
 have hq : memE C.s.l C.last = (m.s.L.reverse.find? (mch C.last)).map en := by
  obtain ⟨_, _, _, _, k5, _⟩ := h.s_eq
  rw [← k5, memE_er]
 obtain ⟨q, hqe⟩ : ∃ q, m.s.L.reverse.find? (mch C.last) = q := ⟨_, rfl⟩
 have hxi : ∀ x, q = some x → I64 x.a ∧ 1 ≤ x.a := fun x hx => by
  have hm : x ∈ m.s.L := List.mem_reverse.1 (List.mem_of_find?_eq_some (hqe.trans hx))
  refine ⟨(hf.w x hm).1.1, ?_⟩
  have hm2 : en x ∈ C.s.l := by rw [← h.s_eq.2.2.2.2.1]; exact List.mem_map_of_mem hm
  exact ((St.may_iff ho.may).2.2.2.2.1 _ hm2).1
 rw [hqe] at hq
 obtain ⟨hs, hse⟩ : ∃ b, hasC C.members C.id = b := ⟨_, rfl⟩
 have hmay : C.may = (hs || (q.map en).any fun e => decide (C.commit < e.a) && hasC (C.upto (e.a - 1)) C.id) := by unfold Cr.may; rw [hse, hq]
 have hse' : (cmay C.members && decide (C.id ∈ C.members)) = hs := hse
 have FF := Lib.hid F
 have Hmb := Lib.hid hmb
 have H := Lib.hid (And.intro hln (And.intro hcl (And.intro hme (And.intro hup (And.intro hul (And.intro c9 (And.intro hqe (And.intro hxi (And.intro hmay hse')))))))))
 clear h ho he hf hmb hln F hcl hme hup hul c9 hq hqe hxi hmay hse hse'
 go_enter Tryz.func51, Tryz.ntmps51
 go_upto_region 1 with (fail)
 refine wp_region_S 6 (fun W => Below w.heap.size w W) (.take 0 (.take 2 (.take 3 (.take 4 (.take 5 (.one 1 (.one 6 (.nil)))))))) (by kernel_rfl) (Below.refl _ _).drew (fun _ _ _ _ h => h) (fun hS => ?_)
 repeat (first
  | (refine wpS_take (v := ?_) rfl rfl (by rfl) ?_ ?_; rotate_left; (intro W hW; have hf := FF.out W hW; go_split_ands; go_simp; try with_reducible rfl); try simp only [Act.put, lyA, lyB, lyC])
  | (refine wpS_skip rfl rfl (by rfl) ?_; try simp only [Act.put, lyA, lyB, lyC]))
 refine wpS_one rfl (by rfl) (fun K hK => ?_)
 go_simp
 go_at_call 62
 refine (Hmb.out).mono ?_
 intro e w1 h1
 obtain ⟨A1, n1, c1, rfl, o1, hb1⟩ := h1
 have hS1 : Below w.heap.size w w1 := (Below.refl _ _).drew.trans hb1
 have hn1 : n1 ≤ 7 := by have := ii_len (Rd.of_own o1); have := H.out.1; omega
 have hhas := hasM_any A1 n1 c1 C.members C.id w1 (Rd.of_own o1) (by omega)
 rw [H.out.2.2.2.2.2.2.2.2.2] at hhas
 have Hhas := Lib.hid hhas
 clear o1 hb1 hhas
 refine hK (fun W => Below w.heap.size w W) _ _ (fun _ h => h) hS1 ?_
 clear hK K
 try simp only [Act.put, lyA, lyB, lyC]
 refine wpS_last rfl (by rfl) (fun K hK => ?_)
 go_simp
 go_at_call 109
 refine Hhas.out.mono ?_
 rintro e w2 ⟨rfl, rfl⟩
 refine hK _ _ ?_
 clear hK K
 try simp only [Act.put, lyA, lyB, lyC]
 refine wpS_nil ?_
 clear hS
 have S1 := Lib.hid hS1
 cases hs
 ·go_wp2_with fail
  refine (H.out.2.1 _ hS1).mono ?_
  rintro e w3 ⟨rfl, hb3⟩
  have hS3 : Below w.heap.size w w3 := hS1.trans (hb3.mono hS1.size)
  clear hb3 hS1
  go_wp2_with fail
  refine (H.out.2.2.1 _ hS3).mono ?_
  rintro e w4 ⟨hb4, hm4⟩
  rw [H.out.2.2.2.2.2.2.1] at hm4
  have hS4 : Below w.heap.size w w4 := hS3.trans (hb4.mono hS3.size)
  have S4 := Lib.hid hS4
  clear hb4 hS3
  cases q with
  | none =>
   obtain rfl := hm4
   have F4 := Lib.hid (fun W (hb : Below w4.heap.size w4 W) => And.intro (FF.out W (S4.out.trans (hb.mono S4.out.size))) (H.out.2.2.2.2.2.1 W (S4.out.trans (hb.mono S4.out.size))))
   go_upto_region 4 with (fail)
   refine wp_region_S 28 (fun W => Below w4.heap.size w4 W) (.take 0 (.take 1 (.take 2 (.take 3 (.take 4 (.take 5 (.take 6 (.take 7 (.take 8 (.take 9 (.take 10 (.take 11 (.take 12 (.take 13 (.take 14 (.take 15 (.take 16 (.take 17 (.take 18 (.take 19 (.take 20 (.take 22 (.take 23 (.take 24 (.take 25 (.one 21 (.one 26 (.take 27 (.one 28 (.nil)))))))))))))))))))))))))))))) (by kernel_rfl) (Below.refl _ _).drew (fun _ _ _ _ h => h) (fun hS => ?_)
   repeat (first
    | (refine wpS_take (v := ?_) rfl rfl (by rfl) ?_ ?_; rotate_left; (intro W hW; have hf := F4.out W hW; go_split_ands; go_simp; try with_reducible rfl); try simp only [Act.put, lyA, lyB, lyC])
    | (refine wpS_skip rfl rfl (by rfl) ?_; try simp only [Act.put, lyA, lyB, lyC]))
   refine wpS_pass rfl rfl (by rfl) ?_
   try simp only [Act.put, lyA, lyB, lyC]
   refine wpS_pass rfl rfl (by rfl) ?_
   try simp only [Act.put, lyA, lyB, lyC]
   repeat (first
    | (refine wpS_take (v := ?_) rfl rfl (by rfl) ?_ ?_; rotate_left; (intro W hW; have hf := F4.out W hW; go_split_ands; go_simp; try with_reducible rfl); try simp only [Act.put, lyA, lyB, lyC])
    | (refine wpS_skip rfl rfl (by rfl) ?_; try simp only [Act.put, lyA, lyB, lyC]))
   refine wpS_last rfl (by rfl) (fun K hK => ?_)
   go_simp
   refine hK _ _ ?_
   clear hK K
   try simp only [Act.put, lyA, lyB, lyC]
   refine wpS_nil ?_
   go_wp2_with fail
   go_ret
   refine ⟨?_, S4.out.drew⟩
   rw [H.out.2.2.2.2.2.2.2.2.1]
   rfl
  | some x =>
   obtain ⟨B, rfl, hB, bB⟩ := hm4
   obtain ⟨hxi, hx1⟩ := H.out.2.2.2.2.2.2.2.1 x rfl
   have F4 := Lib.hid (fun W (hb : Below w4.heap.size w4 W) => And.intro (FF.out W (S4.out.trans (hb.mono S4.out.size))) (And.intro (H.out.2.2.2.2.2.1 W (S4.out.trans (hb.mono S4.out.size))) ((bB.below hb).c 0)))
   clear bB
   have wx : IntKind.i64.wrap (x.a - 1) = x.a - 1 := by rw [IntKind.wrap_i64]; unfold I64 at hxi; omega
   clear hxi hx1
   by_cases hx : C.commit < x.a
   ·have hx' : decide (C.commit < x.a) = true := decide_eq_true hx
    go_upto_region 4 with (fail)
    refine wp_region_S 28 (fun W => Below w4.heap.size w4 W) (.take 0 (.take 1 (.take 2 (.take 3 (.take 4 (.take 5 (.take 6 (.take 7 (.take 8 (.take 9 (.take 10 (.take 11 (.take 12 (.take 13 (.take 14 (.take 15 (.take 16 (.take 17 (.take 18 (.take 19 (.take 20 (.take 22 (.take 23 (.take 24 (.take 25 (.one 21 (.one 26 (.take 27 (.one 28 (.nil)))))))))))))))))))))))))))))) (by kernel_rfl) (Below.refl _ _).drew (fun _ _ _ _ h => h) (fun hS => ?_)
    repeat (first
     | (refine wpS_take (v := ?_) rfl rfl (by rfl) ?_ ?_; rotate_left; (intro W hW; have hf := F4.out W hW; go_split_ands; go_simp; try with_reducible rfl); try simp only [Act.put, lyA, lyB, lyC])
     | (refine wpS_skip rfl rfl (by rfl) ?_; try simp only [Act.put, lyA, lyB, lyC]))
    refine wpS_one rfl (by rfl) (fun K hK => ?_)
    go_simp
    go_at_call 111
    refine (H.out.2.2.2.1 (x.a - 1) _ S4.out.drew).mono ?_
    intro e w5 h5
    obtain ⟨A5, n5, c5, rfl, o5, hb5⟩ := h5
    have hS5 : Below w4.heap.size w4 w5 := (Below.refl _ _).drew.trans hb5
    have hn5 : n5 ≤ 7 := by have := ii_len (Rd.of_own o5); have := H.out.2.2.2.2.1 (x.a - 1); omega
    have Hhas5 := Lib.hid (hasM_any A5 n5 c5 (C.upto (x.a - 1)) C.id w5 (Rd.of_own o5) (by omega))
    clear o5 hb5
    refine hK (fun W => Below w4.heap.size w4 W) _ _ (fun _ h => h) hS5 ?_
    clear hK K
    try simp only [Act.put, lyA, lyB, lyC]
    refine wpS_one rfl (by rfl) (fun K hK => ?_)
    go_simp
    go_at_call 109
    refine (Hhas5.out).mono ?_
    rintro e w6 ⟨rfl, rfl⟩
    refine hK (fun W => Below w4.heap.size w4 W) _ _ (fun _ h => h) hS5 ?_
    clear hK K
    try simp only [Act.put, lyA, lyB, lyC]
    repeat (first
     | (refine wpS_take (v := ?_) rfl rfl (by rfl) ?_ ?_; rotate_left; (intro W hW; have hf := F4.out W hW; go_split_ands; go_simp; try with_reducible rfl); try simp only [Act.put, lyA, lyB, lyC])
     | (refine wpS_skip rfl rfl (by rfl) ?_; try simp only [Act.put, lyA, lyB, lyC]))
    refine wpS_last rfl (by rfl) (fun K hK => ?_)
    go_simp
    refine hK _ _ ?_
    clear hK K
    try simp only [Act.put, lyA, lyB, lyC]
    refine wpS_nil ?_
    go_wp2_with fail
    go_ret
    refine ⟨?_, S4.out.trans (hS5.mono S4.out.size)⟩
    rw [H.out.2.2.2.2.2.2.2.2.1]
    show _ = Ending.returned (.bool (false || (decide (C.commit < x.a) && hasC (C.upto (x.a - 1)) C.id)))
    rw [hx']
    rfl
   ·have hx' : decide (C.commit < x.a) = false := decide_eq_false hx
    go_upto_region 4 with (fail)
    refine wp_region_S 28 (fun W => Below w4.heap.size w4 W) (.take 0 (.take 1 (.take 2 (.take 3 (.take 4 (.take 5 (.take 6 (.take 7 (.take 8 (.take 9 (.take 10 (.take 11 (.take 12 (.take 13 (.take 14 (.take 15 (.take 16 (.take 17 (.take 18 (.take 19 (.take 20 (.take 22 (.take 23 (.take 24 (.take 25 (.one 21 (.one 26 (.take 27 (.one 28 (.nil)))))))))))))))))))))))))))))) (by kernel_rfl) (Below.refl _ _).drew (fun _ _ _ _ h => h) (fun hS => ?_)
    repeat (first
     | (refine wpS_take (v := ?_) rfl rfl (by rfl) ?_ ?_; rotate_left; (intro W hW; have hf := F4.out W hW; go_split_ands; go_simp; try with_reducible rfl); try simp only [Act.put, lyA, lyB, lyC])
     | (refine wpS_skip rfl rfl (by rfl) ?_; try simp only [Act.put, lyA, lyB, lyC]))
    refine wpS_pass rfl rfl (by rfl) ?_
    try simp only [Act.put, lyA, lyB, lyC]
    refine wpS_pass rfl rfl (by rfl) ?_
    try simp only [Act.put, lyA, lyB, lyC]
    repeat (first
     | (refine wpS_take (v := ?_) rfl rfl (by rfl) ?_ ?_; rotate_left; (intro W hW; have hf := F4.out W hW; go_split_ands; go_simp; try with_reducible rfl); try simp only [Act.put, lyA, lyB, lyC])
     | (refine wpS_skip rfl rfl (by rfl) ?_; try simp only [Act.put, lyA, lyB, lyC]))
    refine wpS_last rfl (by rfl) (fun K hK => ?_)
    go_simp
    refine hK _ _ ?_
    clear hK K
    try simp only [Act.put, lyA, lyB, lyC]
    refine wpS_nil ?_
    go_wp2_with fail
    go_ret
    refine ⟨?_, S4.out.drew⟩
    rw [H.out.2.2.2.2.2.2.2.2.1]
    show _ = Ending.returned (.bool (false || (decide (C.commit < x.a) && hasC (C.upto (x.a - 1)) C.id)))
    rw [hx']
    rfl
 ·go_wp2_with fail
  go_ret
  refine ⟨?_, S1.out⟩
  rw [H.out.2.2.2.2.2.2.2.2.1]
  rfl
def Mb.stood (m : Mb) (C : Cr) (g : Nat) : Mb := { m with s := { m.s with tm := C.s.tm + 1, vt := C.id }, V := some ⟨g, 0, none⟩, nv := 1, cv := 1 }
def Cr.stood (C : Cr) : Cr := { C with s := { C.s with tm := C.s.tm + 1, vt := C.id }, role := 1, leader := 0, votes := [C.id] }
theorem CX.stoodAt {fb p : Nat} {w W : World} {V U : Nat → Prop} {C : Cr} {m : Mb} {g : Nat} (h : CX fb w p V U C m) (hb : Bx W p ((m.stood C g).cells C.stood)) (hg : W.heap[g]? = some (.cells #[.int .i64 C.id] 3)) (hgl : w.heap.size ≤ g) (hk : ∀ b, b < w.heap.size → b ≠ p → W.heap[b]? = w.heap[b]?) (hz : W.heap.size = w.heap.size + 1) (ho : W.os = w.os ∧ W.tape = w.tape ∧ W.output = w.output) (hfb : fb ≤ w.heap.size) :
  CTo fb w p V U C.stood W (fun b => V b ∨ b = g) (fun b => U b ∨ b = g) (m.stood C g) := by
 have hgz : g < W.heap.size := (Array.getElem?_eq_some_iff.1 hg).1
 obtain rfl : g = w.heap.size := by omega
 have hpl := h.bx.lt
 have hup : U p := h.vu p h.vp
 have hkn : ∀ b, ¬ (U b ∨ b = w.heap.size) → b < w.heap.size → W.heap[b]? = w.heap[b]? := fun b hb hl => hk b hl fun e => hb (.inl (e ▸ hup))
 have hlt := h.at_.lt
 have hh := h.hv.lt (by omega)
 have hmo : ∀ b, ¬ U b ∧ b < w.heap.size → ¬ (U b ∨ b = w.heap.size) := fun b hb h2 => h2.elim hb.1 fun e => by have := hb.2; omega
 refine ⟨⟨hb, h.pm.keep (hk _ h.pm.lt h.qp), .inl h.vp, .inl h.vq, h.qp, fun g hg => ?_, fun b hb => hb.imp (h.vu b) id, fun b hb => hb.elim (h.vf b) fun e => by omega, fun b hb => ?_, ?_, ?_, ?_, ?_, h.hk⟩, fun b hb => hb.imp id fun e => by omega, fun b hb => .inl hb, fun b hb => hb.imp id fun e => by omega, ho.1, ho.2.1, ho.2.2, by omega, fun b hl hb => hk b hl fun e => hb (e ▸ h.vp)⟩
 ·injection hg with hg
  subst hg
  exact ⟨.inr rfl, by show w.heap.size ≠ p; omega, fun e => by have := h.pm.lt; have e2 : w.heap.size = m.q := e; omega⟩
 ·rcases hb with hb | rfl
  ·have := h.ul b hb; omega
  ·omega
 ·exact ⟨rfl, .inr ⟨w.heap.size, 1, #[.int .i64 C.id], rfl, Nat.zero_le _, hg, Nat.le_refl _, by simp [maxLen], rfl, rfl⟩⟩
 ·have ha := (hlt.mono hmo).keep hkn
  exact ⟨ha.l, ha.d, ha.cf, ha.sn, ha.k1, ha.k2, ha.k3⟩
 ·have := h.st
  unfold Mb.stood Cr.stood Sv.st
  dsimp only
  rw [← this]
  rfl
 ·exact (hh.mono hmo).keep hkn
theorem Cr.Ok.stood' {C : Cr} {k : Nat} (h : C.Ok k) (ht : C.s.tm < 1099511627776) (draw : Int) : (C.stood.draws draw).Ok k := h.stood ht draw
theorem stand_eq (C : Cr) (draw : Int) : C.stand draw = if quor (C.stood.draws draw).members (C.stood.draws draw).votes = true then (C.stood.draws draw).lead else (C.stood.draws draw, (C.stood.draws draw).others.map fun w => { (C.stood.draws draw).say 1 w with ix := lstA (C.stood.draws draw).s.b (C.stood.draws draw).s.l, lt := lstB (C.stood.draws draw).s.t (C.stood.draws draw).s.l }) := rfl
theorem heap_set_ne {W : World} {p i : Nat} {v : Value} {b : Nat} (h : b ≠ p) : (W.setCell ⟨p, i, none⟩ v).heap[b]? = W.heap[b]? := Below.heap_setCell _ _ _ b h
theorem size_set (W : World) (a : Addr) (v : Value) : (W.setCell a v).heap.size = W.heap.size := by simp [World.setCell]
set_option maxHeartbeats 25600000 in
theorem stand_any {fb p : Nat} {w : World} {V U : Nat → Prop} {C : Cr} {m : Mb} {k : Nat} (draw : Int) (h : CX fb w p V U C m) (ho : C.Ok k) (he : Env fb w) (ht : C.s.tm < 1099511627776) :
  Calls Tryz.prog 52 #[.pointer (some ⟨p, 0, none⟩), .int .i64 draw] w (OutPost fb w p V U (C.stand draw)) := by
 obtain ⟨W1, hW1⟩ : ∃ W1, W1 = w.setCell ⟨p, 0, none⟩ (.int .i64 (C.s.tm + 1)) := ⟨_, rfl⟩
 have ht0 := (St.may_iff ho.may).2.2.2.2.2.1
 have wt : IntKind.i64.wrap (C.s.tm + 1) = C.s.tm + 1 := by rw [IntKind.wrap_i64]; omega
 have x1 : Bx W1 p ((m.cells C).setIfInBounds 0 (.int .i64 (C.s.tm + 1))) := by subst hW1; exact h.bx.set 0 _
 have hk1 : ∀ b, b ≠ p → W1.heap[b]? = w.heap[b]? := fun b hb => by subst hW1; exact heap_set_ne hb
 have hz1 : W1.heap.size = w.heap.size := by subst hW1; exact size_set _ _ _
 have ho1 : W1.os = w.os ∧ W1.tape = w.tape ∧ W1.output = w.output := by subst hW1; exact ⟨rfl, rfl, rfl⟩
 have c0 : w.cell? ⟨p, 0, none⟩ = some (.int .i64 C.s.tm) := by rw [← h.s_eq.1]; exact h.bx.c 0
 have f0 := h.bx.f 0
 have HW := Lib.hid hW1
 have H := Lib.hid (And.intro h (And.intro ho (And.intro he ht)))
 have K1 := Lib.hid (And.intro x1 (And.intro hk1 (And.intro hz1 ho1)))
 clear h ho he ht ht0 x1 hk1 hz1 ho1 hW1
 go_enter Tryz.func52, Tryz.ntmps52
 go_upto_region 2 with (fail)
 rw [← HW.out]
 clear c0 f0 wt
 go_cut [] (fun W => ∃ g, CTo fb w p V U C.stood W (fun b => V b ∨ b = g) (fun b => U b ∨ b = g) (m.stood C g))
 case first =>
  have FF : Hid (∀ W, (∃ cs, Bx W p cs ∧ cs[11]? = some (.int .i64 C.id)) → W.cell? ⟨p, 11, none⟩ = some (.int .i64 C.id)) := Lib.hid fun W hW => by
   obtain ⟨cs, h1, h2⟩ := hW
   rw [h1.c 11, h2]
  refine wp_region_S 27 (fun W => ∃ cs, Bx W p cs ∧ cs[11]? = some (.int .i64 C.id)) (.take 0 (.take 1 (.take 2 (.take 3 (.take 4 (.take 5 (.take 6 (.take 7 (.take 8 (.take 9 (.take 10 (.take 11 (.take 13 (.take 14 (.take 15 (.two 12 16 (.one 16 (.take 17 (.take 18 (.take 19 (.one 20 (.take 21 (.take 22 (.take 23 (.one 24 (.take 25 (.take 26 (.one 27 (.nil))))))))))))) (.take 17 (.take 18 (.take 19 (.two 12 20 (.one 20 (.take 21 (.take 22 (.take 23 (.one 24 (.take 25 (.take 26 (.one 27 (.nil))))))))) (.take 21 (.take 22 (.take 23 (.two 12 24 (.one 24 (.take 25 (.take 26 (.one 27 (.nil))))) (.one 12 (.take 25 (.take 26 (.one 27 (.nil))))))))))))))))))))))))))))) (by kernel_rfl) ⟨_, K1.out.1.drew, rfl⟩ (fun _ _ _ _ h => h) (fun hS => ?_)
  repeat (first
   | (refine wpS_take (v := ?_) rfl rfl (by rfl) ?_ ?_; rotate_left; (intro W hW; have hf := FF.out W hW; go_split_ands; go_simp; try with_reducible rfl); try simp only [Act.put, lyA, lyB, lyC])
   | (refine wpS_skip rfl rfl (by rfl) ?_; try simp only [Act.put, lyA, lyB, lyC]))
  refine wpS_two rfl rfl (by rfl) (by rfl) (fun K hK => ?_) (fun K hK => ?_)
  ·go_simp
   obtain ⟨v1, hv1⟩ : ∃ v, v = ((World.alloc W1 (.cells #[.int .i64 C.id] 3))).drew := ⟨_, rfl⟩
   have x1 := (K1.out.1.alloc (.cells #[.int .i64 C.id] 3)).drew
   rw [← hv1] at x1 ⊢
   have zz1 := K1.out.2.2.1
   try rw [zz1]
   have k1 : ∀ b, b < w.heap.size → b ≠ p → v1.heap[b]? = w.heap[b]? := fun b hl hb => by subst hv1; exact (Below.heap_alloc _ _ _ (by rw [zz1]; exact hl)).trans ((fun b (_ : b < w.heap.size) hb => K1.out.2.1 b hb) b hl hb)
   have z1 : v1.heap.size = w.heap.size + 1 := by subst hv1; simp [World.drew]; exact K1.out.2.2.1
   have o1 : v1.os = w.os ∧ v1.tape = w.tape ∧ v1.output = w.output := by subst hv1; exact K1.out.2.2.2
   have g1 : v1.heap[w.heap.size]? = some (.cells #[.int .i64 C.id] 3) := by subst hv1; have e := heap_alloc_new W1 (.cells #[.int .i64 C.id] 3); rw [zz1] at e; exact e
   clear hv1 zz1
   have A1 := Lib.hid (And.intro x1 (And.intro k1 (And.intro z1 (And.intro o1 g1))))
   clear x1 k1 z1 o1 g1
   refine hK (fun W => ∃ cs, Bx W p cs ∧ cs[11]? = some (.int .i64 C.id)) _ _ (fun _ h => h) ⟨_, A1.out.1, rfl⟩ ?_
   clear hK K
   try simp only [Act.put, lyA, lyB, lyC]
   repeat (first
    | (refine wpS_take (v := ?_) rfl rfl (by rfl) ?_ ?_; rotate_left; (intro W hW; have hf := FF.out W hW; go_split_ands; go_simp; try with_reducible rfl); try simp only [Act.put, lyA, lyB, lyC])
    | (refine wpS_skip rfl rfl (by rfl) ?_; try simp only [Act.put, lyA, lyB, lyC]))
   refine wpS_one rfl (by rfl) (fun K hK => ?_)
   have q2 : World.cell? v1 ⟨p, 1, none⟩ = some (.int .i64 m.s.vt) := A1.out.1.c 1
   have f2 : World.frozen? v1 ⟨p, 1, none⟩ = false := A1.out.1.f 1
   go_simp
   obtain ⟨v2, hv2⟩ : ∃ v, v = ((World.setCell v1 ⟨p, 1, none⟩ (.int .i64 C.id))) := ⟨_, rfl⟩
   have x2 := (A1.out.1.set 1 (.int .i64 C.id))
   rw [← hv2] at x2 ⊢
   have k2 : ∀ b, b < w.heap.size → b ≠ p → v2.heap[b]? = w.heap[b]? := fun b hl hb => by subst hv2; exact (heap_set_ne hb).trans (A1.out.2.1 b hl hb)
   have z2 : v2.heap.size = w.heap.size + 1 := by subst hv2; exact (size_set _ _ _).trans A1.out.2.2.1
   have o2 : v2.os = w.os ∧ v2.tape = w.tape ∧ v2.output = w.output := by subst hv2; exact A1.out.2.2.2.1
   have g2 : v2.heap[w.heap.size]? = some (.cells #[.int .i64 C.id] 3) := by subst hv2; exact (heap_set_ne (by have := H.out.1.bx.lt; omega)).trans A1.out.2.2.2.2
   clear q2 f2 hv2
   have A2 := Lib.hid (And.intro x2 (And.intro k2 (And.intro z2 (And.intro o2 g2))))
   clear x2 k2 z2 o2 g2
   refine hK (fun W => ∃ cs, Bx W p cs ∧ cs[11]? = some (.int .i64 C.id)) _ _ (fun _ h => h) ⟨_, A2.out.1, rfl⟩ ?_
   clear hK K
   try simp only [Act.put, lyA, lyB, lyC]
   repeat (first
    | (refine wpS_take (v := ?_) rfl rfl (by rfl) ?_ ?_; rotate_left; (intro W hW; have hf := FF.out W hW; go_split_ands; go_simp; try with_reducible rfl); try simp only [Act.put, lyA, lyB, lyC])
    | (refine wpS_skip rfl rfl (by rfl) ?_; try simp only [Act.put, lyA, lyB, lyC]))
   refine wpS_one rfl (by rfl) (fun K hK => ?_)
   have q3 : World.cell? v2 ⟨p, 7, none⟩ = some (.int .i64 C.role) := A2.out.1.c 7
   have f3 : World.frozen? v2 ⟨p, 7, none⟩ = false := A2.out.1.f 7
   go_simp
   obtain ⟨v3, hv3⟩ : ∃ v, v = ((World.setCell v2 ⟨p, 7, none⟩ (.int .i64 1))) := ⟨_, rfl⟩
   have x3 := (A2.out.1.set 7 (.int .i64 1))
   rw [← hv3] at x3 ⊢
   have k3 : ∀ b, b < w.heap.size → b ≠ p → v3.heap[b]? = w.heap[b]? := fun b hl hb => by subst hv3; exact (heap_set_ne hb).trans (A2.out.2.1 b hl hb)
   have z3 : v3.heap.size = w.heap.size + 1 := by subst hv3; exact (size_set _ _ _).trans A2.out.2.2.1
   have o3 : v3.os = w.os ∧ v3.tape = w.tape ∧ v3.output = w.output := by subst hv3; exact A2.out.2.2.2.1
   have g3 : v3.heap[w.heap.size]? = some (.cells #[.int .i64 C.id] 3) := by subst hv3; exact (heap_set_ne (by have := H.out.1.bx.lt; omega)).trans A2.out.2.2.2.2
   clear q3 f3 hv3
   have A3 := Lib.hid (And.intro x3 (And.intro k3 (And.intro z3 (And.intro o3 g3))))
   clear x3 k3 z3 o3 g3
   refine hK (fun W => ∃ cs, Bx W p cs ∧ cs[11]? = some (.int .i64 C.id)) _ _ (fun _ h => h) ⟨_, A3.out.1, rfl⟩ ?_
   clear hK K
   try simp only [Act.put, lyA, lyB, lyC]
   repeat (first
    | (refine wpS_take (v := ?_) rfl rfl (by rfl) ?_ ?_; rotate_left; (intro W hW; have hf := FF.out W hW; go_split_ands; go_simp; try with_reducible rfl); try simp only [Act.put, lyA, lyB, lyC])
    | (refine wpS_skip rfl rfl (by rfl) ?_; try simp only [Act.put, lyA, lyB, lyC]))
   refine wpS_one rfl (by rfl) (fun K hK => ?_)
   have q4 : World.cell? v3 ⟨p, 8, none⟩ = some (.int .i64 C.leader) := A3.out.1.c 8
   have f4 : World.frozen? v3 ⟨p, 8, none⟩ = false := A3.out.1.f 8
   go_simp
   obtain ⟨v4, hv4⟩ : ∃ v, v = ((World.setCell v3 ⟨p, 8, none⟩ (.int .i64 0))) := ⟨_, rfl⟩
   have x4 := (A3.out.1.set 8 (.int .i64 0))
   rw [← hv4] at x4 ⊢
   have k4 : ∀ b, b < w.heap.size → b ≠ p → v4.heap[b]? = w.heap[b]? := fun b hl hb => by subst hv4; exact (heap_set_ne hb).trans (A3.out.2.1 b hl hb)
   have z4 : v4.heap.size = w.heap.size + 1 := by subst hv4; exact (size_set _ _ _).trans A3.out.2.2.1
   have o4 : v4.os = w.os ∧ v4.tape = w.tape ∧ v4.output = w.output := by subst hv4; exact A3.out.2.2.2.1
   have g4 : v4.heap[w.heap.size]? = some (.cells #[.int .i64 C.id] 3) := by subst hv4; exact (heap_set_ne (by have := H.out.1.bx.lt; omega)).trans A3.out.2.2.2.2
   clear q4 f4 hv4
   have A4 := Lib.hid (And.intro x4 (And.intro k4 (And.intro z4 (And.intro o4 g4))))
   clear x4 k4 z4 o4 g4
   refine hK (fun W => ∃ cs, Bx W p cs ∧ cs[11]? = some (.int .i64 C.id)) _ _ (fun _ h => h) ⟨_, A4.out.1, rfl⟩ ?_
   clear hK K
   try simp only [Act.put, lyA, lyB, lyC]
   repeat (first
    | (refine wpS_take (v := ?_) rfl rfl (by rfl) ?_ ?_; rotate_left; (intro W hW; have hf := FF.out W hW; go_split_ands; go_simp; try with_reducible rfl); try simp only [Act.put, lyA, lyB, lyC])
    | (refine wpS_skip rfl rfl (by rfl) ?_; try simp only [Act.put, lyA, lyB, lyC]))
   refine wpS_last rfl (by rfl) (fun K hK => ?_)
   have q5 : World.cell? v4 ⟨p, 15, none⟩ = some (.slice m.V m.nv m.cv) := A4.out.1.c 15
   have f5 : World.frozen? v4 ⟨p, 15, none⟩ = false := A4.out.1.f 15
   go_simp
   obtain ⟨v5, hv5⟩ : ∃ v, v = ((World.setCell v4 ⟨p, 15, none⟩ (.slice (some ⟨w.heap.size, 0, none⟩) 1 1))) := ⟨_, rfl⟩
   have x5 := (A4.out.1.set 15 (.slice (some ⟨w.heap.size, 0, none⟩) 1 1))
   rw [← hv5] at x5 ⊢
   have k5 : ∀ b, b < w.heap.size → b ≠ p → v5.heap[b]? = w.heap[b]? := fun b hl hb => by subst hv5; exact (heap_set_ne hb).trans (A4.out.2.1 b hl hb)
   have z5 : v5.heap.size = w.heap.size + 1 := by subst hv5; exact (size_set _ _ _).trans A4.out.2.2.1
   have o5 : v5.os = w.os ∧ v5.tape = w.tape ∧ v5.output = w.output := by subst hv5; exact A4.out.2.2.2.1
   have g5 : v5.heap[w.heap.size]? = some (.cells #[.int .i64 C.id] 3) := by subst hv5; exact (heap_set_ne (by have := H.out.1.bx.lt; omega)).trans A4.out.2.2.2.2
   clear q5 f5 hv5
   have A5 := Lib.hid (And.intro x5 (And.intro k5 (And.intro z5 (And.intro o5 g5))))
   clear x5 k5 z5 o5 g5
   refine hK _ _ ?_
   clear hK K
   try simp only [Act.put, lyA, lyB, lyC]
   refine wpS_nil ?_
   go_wp2_with fail
   go_meet
   case rel => exact ⟨w.heap.size, H.out.1.stoodAt A5.out.1 A5.out.2.2.2.2 (Nat.le_refl _) A5.out.2.1 A5.out.2.2.1 A5.out.2.2.2.1 H.out.2.2.1.le⟩
  ·have q6 : World.cell? W1 ⟨p, 1, none⟩ = some (.int .i64 m.s.vt) := K1.out.1.c 1
   have f6 : World.frozen? W1 ⟨p, 1, none⟩ = false := K1.out.1.f 1
   go_simp
   obtain ⟨v6, hv6⟩ : ∃ v, v = ((World.setCell W1 ⟨p, 1, none⟩ (.int .i64 C.id))).drew := ⟨_, rfl⟩
   have x6 := (K1.out.1.set 1 (.int .i64 C.id)).drew
   rw [← hv6] at x6 ⊢
   have k6 : ∀ b, b < w.heap.size → b ≠ p → v6.heap[b]? = w.heap[b]? := fun b hl hb => by subst hv6; exact (heap_set_ne hb).trans ((fun b (_ : b < w.heap.size) hb => K1.out.2.1 b hb) b hl hb)
   have z6 : v6.heap.size = w.heap.size + 0 := by subst hv6; exact (size_set _ _ _).trans K1.out.2.2.1
   have o6 : v6.os = w.os ∧ v6.tape = w.tape ∧ v6.output = w.output := by subst hv6; exact K1.out.2.2.2
   have g6 : True := trivial
   clear q6 f6 hv6
   have A6 := Lib.hid (And.intro x6 (And.intro k6 (And.intro z6 (And.intro o6 g6))))
   clear x6 k6 z6 o6 g6
   refine hK (fun W => ∃ cs, Bx W p cs ∧ cs[11]? = some (.int .i64 C.id)) _ _ (fun _ h => h) ⟨_, A6.out.1, rfl⟩ ?_
   clear hK K
   try simp only [Act.put, lyA, lyB, lyC]
   repeat (first
    | (refine wpS_take (v := ?_) rfl rfl (by rfl) ?_ ?_; rotate_left; (intro W hW; have hf := FF.out W hW; go_split_ands; go_simp; try with_reducible rfl); try simp only [Act.put, lyA, lyB, lyC])
    | (refine wpS_skip rfl rfl (by rfl) ?_; try simp only [Act.put, lyA, lyB, lyC]))
   refine wpS_two rfl rfl (by rfl) (by rfl) (fun K hK => ?_) (fun K hK => ?_)
   ·go_simp
    obtain ⟨v7, hv7⟩ : ∃ v, v = ((World.alloc v6 (.cells #[.int .i64 C.id] 3))) := ⟨_, rfl⟩
    have x7 := (A6.out.1.alloc (.cells #[.int .i64 C.id] 3))
    rw [← hv7] at x7 ⊢
    have zz7 := A6.out.2.2.1
    try rw [zz7]
    have k7 : ∀ b, b < w.heap.size → b ≠ p → v7.heap[b]? = w.heap[b]? := fun b hl hb => by subst hv7; exact (Below.heap_alloc _ _ _ (by rw [zz7]; exact hl)).trans (A6.out.2.1 b hl hb)
    have z7 : v7.heap.size = w.heap.size + 1 := by subst hv7; simp [World.drew]; exact A6.out.2.2.1
    have o7 : v7.os = w.os ∧ v7.tape = w.tape ∧ v7.output = w.output := by subst hv7; exact A6.out.2.2.2.1
    have g7 : v7.heap[w.heap.size]? = some (.cells #[.int .i64 C.id] 3) := by subst hv7; have e := heap_alloc_new v6 (.cells #[.int .i64 C.id] 3); rw [zz7] at e; exact e
    clear hv7 zz7
    have A7 := Lib.hid (And.intro x7 (And.intro k7 (And.intro z7 (And.intro o7 g7))))
    clear x7 k7 z7 o7 g7
    refine hK (fun W => ∃ cs, Bx W p cs ∧ cs[11]? = some (.int .i64 C.id)) _ _ (fun _ h => h) ⟨_, A7.out.1, rfl⟩ ?_
    clear hK K
    try simp only [Act.put, lyA, lyB, lyC]
    repeat (first
     | (refine wpS_take (v := ?_) rfl rfl (by rfl) ?_ ?_; rotate_left; (intro W hW; have hf := FF.out W hW; go_split_ands; go_simp; try with_reducible rfl); try simp only [Act.put, lyA, lyB, lyC])
     | (refine wpS_skip rfl rfl (by rfl) ?_; try simp only [Act.put, lyA, lyB, lyC]))
    refine wpS_one rfl (by rfl) (fun K hK => ?_)
    have q8 : World.cell? v7 ⟨p, 7, none⟩ = some (.int .i64 C.role) := A7.out.1.c 7
    have f8 : World.frozen? v7 ⟨p, 7, none⟩ = false := A7.out.1.f 7
    go_simp
    obtain ⟨v8, hv8⟩ : ∃ v, v = ((World.setCell v7 ⟨p, 7, none⟩ (.int .i64 1))) := ⟨_, rfl⟩
    have x8 := (A7.out.1.set 7 (.int .i64 1))
    rw [← hv8] at x8 ⊢
    have k8 : ∀ b, b < w.heap.size → b ≠ p → v8.heap[b]? = w.heap[b]? := fun b hl hb => by subst hv8; exact (heap_set_ne hb).trans (A7.out.2.1 b hl hb)
    have z8 : v8.heap.size = w.heap.size + 1 := by subst hv8; exact (size_set _ _ _).trans A7.out.2.2.1
    have o8 : v8.os = w.os ∧ v8.tape = w.tape ∧ v8.output = w.output := by subst hv8; exact A7.out.2.2.2.1
    have g8 : v8.heap[w.heap.size]? = some (.cells #[.int .i64 C.id] 3) := by subst hv8; exact (heap_set_ne (by have := H.out.1.bx.lt; omega)).trans A7.out.2.2.2.2
    clear q8 f8 hv8
    have A8 := Lib.hid (And.intro x8 (And.intro k8 (And.intro z8 (And.intro o8 g8))))
    clear x8 k8 z8 o8 g8
    refine hK (fun W => ∃ cs, Bx W p cs ∧ cs[11]? = some (.int .i64 C.id)) _ _ (fun _ h => h) ⟨_, A8.out.1, rfl⟩ ?_
    clear hK K
    try simp only [Act.put, lyA, lyB, lyC]
    repeat (first
     | (refine wpS_take (v := ?_) rfl rfl (by rfl) ?_ ?_; rotate_left; (intro W hW; have hf := FF.out W hW; go_split_ands; go_simp; try with_reducible rfl); try simp only [Act.put, lyA, lyB, lyC])
     | (refine wpS_skip rfl rfl (by rfl) ?_; try simp only [Act.put, lyA, lyB, lyC]))
    refine wpS_one rfl (by rfl) (fun K hK => ?_)
    have q9 : World.cell? v8 ⟨p, 8, none⟩ = some (.int .i64 C.leader) := A8.out.1.c 8
    have f9 : World.frozen? v8 ⟨p, 8, none⟩ = false := A8.out.1.f 8
    go_simp
    obtain ⟨v9, hv9⟩ : ∃ v, v = ((World.setCell v8 ⟨p, 8, none⟩ (.int .i64 0))) := ⟨_, rfl⟩
    have x9 := (A8.out.1.set 8 (.int .i64 0))
    rw [← hv9] at x9 ⊢
    have k9 : ∀ b, b < w.heap.size → b ≠ p → v9.heap[b]? = w.heap[b]? := fun b hl hb => by subst hv9; exact (heap_set_ne hb).trans (A8.out.2.1 b hl hb)
    have z9 : v9.heap.size = w.heap.size + 1 := by subst hv9; exact (size_set _ _ _).trans A8.out.2.2.1
    have o9 : v9.os = w.os ∧ v9.tape = w.tape ∧ v9.output = w.output := by subst hv9; exact A8.out.2.2.2.1
    have g9 : v9.heap[w.heap.size]? = some (.cells #[.int .i64 C.id] 3) := by subst hv9; exact (heap_set_ne (by have := H.out.1.bx.lt; omega)).trans A8.out.2.2.2.2
    clear q9 f9 hv9
    have A9 := Lib.hid (And.intro x9 (And.intro k9 (And.intro z9 (And.intro o9 g9))))
    clear x9 k9 z9 o9 g9
    refine hK (fun W => ∃ cs, Bx W p cs ∧ cs[11]? = some (.int .i64 C.id)) _ _ (fun _ h => h) ⟨_, A9.out.1, rfl⟩ ?_
    clear hK K
    try simp only [Act.put, lyA, lyB, lyC]
    repeat (first
     | (refine wpS_take (v := ?_) rfl rfl (by rfl) ?_ ?_; rotate_left; (intro W hW; have hf := FF.out W hW; go_split_ands; go_simp; try with_reducible rfl); try simp only [Act.put, lyA, lyB, lyC])
     | (refine wpS_skip rfl rfl (by rfl) ?_; try simp only [Act.put, lyA, lyB, lyC]))
    refine wpS_last rfl (by rfl) (fun K hK => ?_)
    have q10 : World.cell? v9 ⟨p, 15, none⟩ = some (.slice m.V m.nv m.cv) := A9.out.1.c 15
    have f10 : World.frozen? v9 ⟨p, 15, none⟩ = false := A9.out.1.f 15
    go_simp
    obtain ⟨v10, hv10⟩ : ∃ v, v = ((World.setCell v9 ⟨p, 15, none⟩ (.slice (some ⟨w.heap.size, 0, none⟩) 1 1))) := ⟨_, rfl⟩
    have x10 := (A9.out.1.set 15 (.slice (some ⟨w.heap.size, 0, none⟩) 1 1))
    rw [← hv10] at x10 ⊢
    have k10 : ∀ b, b < w.heap.size → b ≠ p → v10.heap[b]? = w.heap[b]? := fun b hl hb => by subst hv10; exact (heap_set_ne hb).trans (A9.out.2.1 b hl hb)
    have z10 : v10.heap.size = w.heap.size + 1 := by subst hv10; exact (size_set _ _ _).trans A9.out.2.2.1
    have o10 : v10.os = w.os ∧ v10.tape = w.tape ∧ v10.output = w.output := by subst hv10; exact A9.out.2.2.2.1
    have g10 : v10.heap[w.heap.size]? = some (.cells #[.int .i64 C.id] 3) := by subst hv10; exact (heap_set_ne (by have := H.out.1.bx.lt; omega)).trans A9.out.2.2.2.2
    clear q10 f10 hv10
    have A10 := Lib.hid (And.intro x10 (And.intro k10 (And.intro z10 (And.intro o10 g10))))
    clear x10 k10 z10 o10 g10
    refine hK _ _ ?_
    clear hK K
    try simp only [Act.put, lyA, lyB, lyC]
    refine wpS_nil ?_
    go_wp2_with fail
    go_meet
    case rel => exact ⟨w.heap.size, H.out.1.stoodAt A10.out.1 A10.out.2.2.2.2 (Nat.le_refl _) A10.out.2.1 A10.out.2.2.1 A10.out.2.2.2.1 H.out.2.2.1.le⟩
   ·have q11 : World.cell? v6 ⟨p, 7, none⟩ = some (.int .i64 C.role) := A6.out.1.c 7
    have f11 : World.frozen? v6 ⟨p, 7, none⟩ = false := A6.out.1.f 7
    go_simp
    obtain ⟨v11, hv11⟩ : ∃ v, v = ((World.setCell v6 ⟨p, 7, none⟩ (.int .i64 1))) := ⟨_, rfl⟩
    have x11 := (A6.out.1.set 7 (.int .i64 1))
    rw [← hv11] at x11 ⊢
    have k11 : ∀ b, b < w.heap.size → b ≠ p → v11.heap[b]? = w.heap[b]? := fun b hl hb => by subst hv11; exact (heap_set_ne hb).trans (A6.out.2.1 b hl hb)
    have z11 : v11.heap.size = w.heap.size + 0 := by subst hv11; exact (size_set _ _ _).trans A6.out.2.2.1
    have o11 : v11.os = w.os ∧ v11.tape = w.tape ∧ v11.output = w.output := by subst hv11; exact A6.out.2.2.2.1
    have g11 : True := trivial
    clear q11 f11 hv11
    have A11 := Lib.hid (And.intro x11 (And.intro k11 (And.intro z11 (And.intro o11 g11))))
    clear x11 k11 z11 o11 g11
    refine hK (fun W => ∃ cs, Bx W p cs ∧ cs[11]? = some (.int .i64 C.id)) _ _ (fun _ h => h) ⟨_, A11.out.1, rfl⟩ ?_
    clear hK K
    try simp only [Act.put, lyA, lyB, lyC]
    repeat (first
     | (refine wpS_take (v := ?_) rfl rfl (by rfl) ?_ ?_; rotate_left; (intro W hW; have hf := FF.out W hW; go_split_ands; go_simp; try with_reducible rfl); try simp only [Act.put, lyA, lyB, lyC])
     | (refine wpS_skip rfl rfl (by rfl) ?_; try simp only [Act.put, lyA, lyB, lyC]))
    refine wpS_two rfl rfl (by rfl) (by rfl) (fun K hK => ?_) (fun K hK => ?_)
    ·go_simp
     obtain ⟨v12, hv12⟩ : ∃ v, v = ((World.alloc v11 (.cells #[.int .i64 C.id] 3))) := ⟨_, rfl⟩
     have x12 := (A11.out.1.alloc (.cells #[.int .i64 C.id] 3))
     rw [← hv12] at x12 ⊢
     have zz12 := A11.out.2.2.1
     try rw [zz12]
     have k12 : ∀ b, b < w.heap.size → b ≠ p → v12.heap[b]? = w.heap[b]? := fun b hl hb => by subst hv12; exact (Below.heap_alloc _ _ _ (by rw [zz12]; exact hl)).trans (A11.out.2.1 b hl hb)
     have z12 : v12.heap.size = w.heap.size + 1 := by subst hv12; simp [World.drew]; exact A11.out.2.2.1
     have o12 : v12.os = w.os ∧ v12.tape = w.tape ∧ v12.output = w.output := by subst hv12; exact A11.out.2.2.2.1
     have g12 : v12.heap[w.heap.size]? = some (.cells #[.int .i64 C.id] 3) := by subst hv12; have e := heap_alloc_new v11 (.cells #[.int .i64 C.id] 3); rw [zz12] at e; exact e
     clear hv12 zz12
     have A12 := Lib.hid (And.intro x12 (And.intro k12 (And.intro z12 (And.intro o12 g12))))
     clear x12 k12 z12 o12 g12
     refine hK (fun W => ∃ cs, Bx W p cs ∧ cs[11]? = some (.int .i64 C.id)) _ _ (fun _ h => h) ⟨_, A12.out.1, rfl⟩ ?_
     clear hK K
     try simp only [Act.put, lyA, lyB, lyC]
     repeat (first
      | (refine wpS_take (v := ?_) rfl rfl (by rfl) ?_ ?_; rotate_left; (intro W hW; have hf := FF.out W hW; go_split_ands; go_simp; try with_reducible rfl); try simp only [Act.put, lyA, lyB, lyC])
      | (refine wpS_skip rfl rfl (by rfl) ?_; try simp only [Act.put, lyA, lyB, lyC]))
     refine wpS_one rfl (by rfl) (fun K hK => ?_)
     have q13 : World.cell? v12 ⟨p, 8, none⟩ = some (.int .i64 C.leader) := A12.out.1.c 8
     have f13 : World.frozen? v12 ⟨p, 8, none⟩ = false := A12.out.1.f 8
     go_simp
     obtain ⟨v13, hv13⟩ : ∃ v, v = ((World.setCell v12 ⟨p, 8, none⟩ (.int .i64 0))) := ⟨_, rfl⟩
     have x13 := (A12.out.1.set 8 (.int .i64 0))
     rw [← hv13] at x13 ⊢
     have k13 : ∀ b, b < w.heap.size → b ≠ p → v13.heap[b]? = w.heap[b]? := fun b hl hb => by subst hv13; exact (heap_set_ne hb).trans (A12.out.2.1 b hl hb)
     have z13 : v13.heap.size = w.heap.size + 1 := by subst hv13; exact (size_set _ _ _).trans A12.out.2.2.1
     have o13 : v13.os = w.os ∧ v13.tape = w.tape ∧ v13.output = w.output := by subst hv13; exact A12.out.2.2.2.1
     have g13 : v13.heap[w.heap.size]? = some (.cells #[.int .i64 C.id] 3) := by subst hv13; exact (heap_set_ne (by have := H.out.1.bx.lt; omega)).trans A12.out.2.2.2.2
     clear q13 f13 hv13
     have A13 := Lib.hid (And.intro x13 (And.intro k13 (And.intro z13 (And.intro o13 g13))))
     clear x13 k13 z13 o13 g13
     refine hK (fun W => ∃ cs, Bx W p cs ∧ cs[11]? = some (.int .i64 C.id)) _ _ (fun _ h => h) ⟨_, A13.out.1, rfl⟩ ?_
     clear hK K
     try simp only [Act.put, lyA, lyB, lyC]
     repeat (first
      | (refine wpS_take (v := ?_) rfl rfl (by rfl) ?_ ?_; rotate_left; (intro W hW; have hf := FF.out W hW; go_split_ands; go_simp; try with_reducible rfl); try simp only [Act.put, lyA, lyB, lyC])
      | (refine wpS_skip rfl rfl (by rfl) ?_; try simp only [Act.put, lyA, lyB, lyC]))
     refine wpS_last rfl (by rfl) (fun K hK => ?_)
     have q14 : World.cell? v13 ⟨p, 15, none⟩ = some (.slice m.V m.nv m.cv) := A13.out.1.c 15
     have f14 : World.frozen? v13 ⟨p, 15, none⟩ = false := A13.out.1.f 15
     go_simp
     obtain ⟨v14, hv14⟩ : ∃ v, v = ((World.setCell v13 ⟨p, 15, none⟩ (.slice (some ⟨w.heap.size, 0, none⟩) 1 1))) := ⟨_, rfl⟩
     have x14 := (A13.out.1.set 15 (.slice (some ⟨w.heap.size, 0, none⟩) 1 1))
     rw [← hv14] at x14 ⊢
     have k14 : ∀ b, b < w.heap.size → b ≠ p → v14.heap[b]? = w.heap[b]? := fun b hl hb => by subst hv14; exact (heap_set_ne hb).trans (A13.out.2.1 b hl hb)
     have z14 : v14.heap.size = w.heap.size + 1 := by subst hv14; exact (size_set _ _ _).trans A13.out.2.2.1
     have o14 : v14.os = w.os ∧ v14.tape = w.tape ∧ v14.output = w.output := by subst hv14; exact A13.out.2.2.2.1
     have g14 : v14.heap[w.heap.size]? = some (.cells #[.int .i64 C.id] 3) := by subst hv14; exact (heap_set_ne (by have := H.out.1.bx.lt; omega)).trans A13.out.2.2.2.2
     clear q14 f14 hv14
     have A14 := Lib.hid (And.intro x14 (And.intro k14 (And.intro z14 (And.intro o14 g14))))
     clear x14 k14 z14 o14 g14
     refine hK _ _ ?_
     clear hK K
     try simp only [Act.put, lyA, lyB, lyC]
     refine wpS_nil ?_
     go_wp2_with fail
     go_meet
     case rel => exact ⟨w.heap.size, H.out.1.stoodAt A14.out.1 A14.out.2.2.2.2 (Nat.le_refl _) A14.out.2.1 A14.out.2.2.1 A14.out.2.2.2.1 H.out.2.2.1.le⟩
    ·have q15 : World.cell? v11 ⟨p, 8, none⟩ = some (.int .i64 C.leader) := A11.out.1.c 8
     have f15 : World.frozen? v11 ⟨p, 8, none⟩ = false := A11.out.1.f 8
     go_simp
     obtain ⟨v15, hv15⟩ : ∃ v, v = ((World.setCell v11 ⟨p, 8, none⟩ (.int .i64 0))) := ⟨_, rfl⟩
     have x15 := (A11.out.1.set 8 (.int .i64 0))
     rw [← hv15] at x15 ⊢
     have k15 : ∀ b, b < w.heap.size → b ≠ p → v15.heap[b]? = w.heap[b]? := fun b hl hb => by subst hv15; exact (heap_set_ne hb).trans (A11.out.2.1 b hl hb)
     have z15 : v15.heap.size = w.heap.size + 0 := by subst hv15; exact (size_set _ _ _).trans A11.out.2.2.1
     have o15 : v15.os = w.os ∧ v15.tape = w.tape ∧ v15.output = w.output := by subst hv15; exact A11.out.2.2.2.1
     have g15 : True := trivial
     clear q15 f15 hv15
     have A15 := Lib.hid (And.intro x15 (And.intro k15 (And.intro z15 (And.intro o15 g15))))
     clear x15 k15 z15 o15 g15
     refine hK (fun W => ∃ cs, Bx W p cs ∧ cs[11]? = some (.int .i64 C.id)) _ _ (fun _ h => h) ⟨_, A15.out.1, rfl⟩ ?_
     clear hK K
     try simp only [Act.put, lyA, lyB, lyC]
     repeat (first
      | (refine wpS_take (v := ?_) rfl rfl (by rfl) ?_ ?_; rotate_left; (intro W hW; have hf := FF.out W hW; go_split_ands; go_simp; try with_reducible rfl); try simp only [Act.put, lyA, lyB, lyC])
      | (refine wpS_skip rfl rfl (by rfl) ?_; try simp only [Act.put, lyA, lyB, lyC]))
     refine wpS_one rfl (by rfl) (fun K hK => ?_)
     go_simp
     obtain ⟨v16, hv16⟩ : ∃ v, v = ((World.alloc v15 (.cells #[.int .i64 C.id] 3))) := ⟨_, rfl⟩
     have x16 := (A15.out.1.alloc (.cells #[.int .i64 C.id] 3))
     rw [← hv16] at x16 ⊢
     have zz16 := A15.out.2.2.1
     try rw [zz16]
     have k16 : ∀ b, b < w.heap.size → b ≠ p → v16.heap[b]? = w.heap[b]? := fun b hl hb => by subst hv16; exact (Below.heap_alloc _ _ _ (by rw [zz16]; exact hl)).trans (A15.out.2.1 b hl hb)
     have z16 : v16.heap.size = w.heap.size + 1 := by subst hv16; simp [World.drew]; exact A15.out.2.2.1
     have o16 : v16.os = w.os ∧ v16.tape = w.tape ∧ v16.output = w.output := by subst hv16; exact A15.out.2.2.2.1
     have g16 : v16.heap[w.heap.size]? = some (.cells #[.int .i64 C.id] 3) := by subst hv16; have e := heap_alloc_new v15 (.cells #[.int .i64 C.id] 3); rw [zz16] at e; exact e
     clear hv16 zz16
     have A16 := Lib.hid (And.intro x16 (And.intro k16 (And.intro z16 (And.intro o16 g16))))
     clear x16 k16 z16 o16 g16
     refine hK (fun W => ∃ cs, Bx W p cs ∧ cs[11]? = some (.int .i64 C.id)) _ _ (fun _ h => h) ⟨_, A16.out.1, rfl⟩ ?_
     clear hK K
     try simp only [Act.put, lyA, lyB, lyC]
     repeat (first
      | (refine wpS_take (v := ?_) rfl rfl (by rfl) ?_ ?_; rotate_left; (intro W hW; have hf := FF.out W hW; go_split_ands; go_simp; try with_reducible rfl); try simp only [Act.put, lyA, lyB, lyC])
      | (refine wpS_skip rfl rfl (by rfl) ?_; try simp only [Act.put, lyA, lyB, lyC]))
     refine wpS_last rfl (by rfl) (fun K hK => ?_)
     have q17 : World.cell? v16 ⟨p, 15, none⟩ = some (.slice m.V m.nv m.cv) := A16.out.1.c 15
     have f17 : World.frozen? v16 ⟨p, 15, none⟩ = false := A16.out.1.f 15
     go_simp
     obtain ⟨v17, hv17⟩ : ∃ v, v = ((World.setCell v16 ⟨p, 15, none⟩ (.slice (some ⟨w.heap.size, 0, none⟩) 1 1))) := ⟨_, rfl⟩
     have x17 := (A16.out.1.set 15 (.slice (some ⟨w.heap.size, 0, none⟩) 1 1))
     rw [← hv17] at x17 ⊢
     have k17 : ∀ b, b < w.heap.size → b ≠ p → v17.heap[b]? = w.heap[b]? := fun b hl hb => by subst hv17; exact (heap_set_ne hb).trans (A16.out.2.1 b hl hb)
     have z17 : v17.heap.size = w.heap.size + 1 := by subst hv17; exact (size_set _ _ _).trans A16.out.2.2.1
     have o17 : v17.os = w.os ∧ v17.tape = w.tape ∧ v17.output = w.output := by subst hv17; exact A16.out.2.2.2.1
     have g17 : v17.heap[w.heap.size]? = some (.cells #[.int .i64 C.id] 3) := by subst hv17; exact (heap_set_ne (by have := H.out.1.bx.lt; omega)).trans A16.out.2.2.2.2
     clear q17 f17 hv17
     have A17 := Lib.hid (And.intro x17 (And.intro k17 (And.intro z17 (And.intro o17 g17))))
     clear x17 k17 z17 o17 g17
     refine hK _ _ ?_
     clear hK K
     try simp only [Act.put, lyA, lyB, lyC]
     refine wpS_nil ?_
     go_wp2_with fail
     go_meet
     case rel => exact ⟨w.heap.size, H.out.1.stoodAt A17.out.1 A17.out.2.2.2.2 (Nat.le_refl _) A17.out.2.1 A17.out.2.2.1 A17.out.2.2.2.1 H.out.2.2.1.le⟩
 case rest =>
  obtain ⟨g, hto⟩ := hcut
  have hdr := draws_any p _ C.span draw wc hto.cx.bx rfl (by unfold Mb.cells coreC; simp) H.out.2.1.span.1 H.out.2.1.span.2
  have T1 := Lib.hid hto
  have Hdr := Lib.hid hdr
  clear hto hdr
  go_wp2_with fail
  refine Hdr.out.mono ?_
  rintro e w2 ⟨rfl, x2, g2⟩
  have hto : CTo fb w p V U (C.stood.draws draw) w2 (fun b => V b ∨ b = g) (fun b => U b ∨ b = g) (m.stood C g) := T1.out.cells x2 g2 rfl rfl rfl rfl
  have hst := stand_eq C draw
  have hok := H.out.2.1.stood' H.out.2.2.2 draw
  obtain ⟨C3, hC3⟩ : ∃ C3, C.stood.draws draw = C3 := ⟨_, rfl⟩
  obtain ⟨M, hM⟩ : ∃ M, m.stood C g = M := ⟨_, rfl⟩
  rw [hC3] at hto hst hok
  rw [hM] at hto
  have hen : Env fb w2 := H.out.2.2.1.kept hto.kept H.out.1.vf
  have hcx := hto.cx
  have hf := hcx.fit hok
  have hmb := members_any hcx.drew hf hok.may hen.drew.ev
  have hln := (cmay_iff.1 (members_may hok.may)).2.2.2
  have hvt : Rd w2 T 1 M.V M.nv (ii C3.votes) := (Rd.of_own hcx.vt).any
  have hvl : M.nv ≤ 1000000 := by have := ii_len hvt; have := hok.votes.1; have := hok.big; omega
  have hld := lead_any hcx.drew hok hen.drew
  have hld := fun W (hb : Below w2.heap.size w2 W) => lead_any (hcx.below hb) hok (hen.new hb)
  have hot := fun W (hb : Below w2.heap.size w2 W) => others_any (hcx.below hb) hf hok.may (hen.new hb).ev
  have hsay := fun x W (hb : Below w2.heap.size w2 W) => say_any 1 x (hcx.below hb)
  have hla := fun W (hb : Below w2.heap.size w2 W) => Last_any M.s.b M.s.t M.s.A M.s.n M.s.c M.s.L W (hcx.below hb).at_.l (hcx.at_.wel hf) (hcx.lm hok.may) hf.z.1
  have ela : lstA M.s.b (M.s.L.map en) = lstA C3.s.b C3.s.l ∧ lstB M.s.t (M.s.L.map en) = lstB C3.s.t C3.s.l := by
   obtain ⟨_, _, k3, k4, k5, _⟩ := hcx.s_eq
   rw [k3, k4, k5]
   exact ⟨rfl, rfl⟩
  rw [ela.1, ela.2] at hla
  have F : ∀ W, Below w2.heap.size w2 W → W.cell? ⟨p, 15, none⟩ = some (.slice M.V M.nv M.cv) := fun W hb => (hcx.below hb).bx.c 15
  have G : ∀ W, Below w2.heap.size w2 W → W.cell? ⟨p, 2, none⟩ = some (.int .i64 M.s.b) ∧ W.cell? ⟨p, 3, none⟩ = some (.int .i64 M.s.t) ∧ W.cell? ⟨p, 4, none⟩ = some (.slice M.s.A M.s.n M.s.c) := fun W hb => ⟨(hcx.below hb).bx.c 2, (hcx.below hb).bx.c 3, (hcx.below hb).bx.c 4⟩
  have hol := others_len hok.may
  obtain ⟨l0, hl0⟩ : ∃ l0, C3.others = l0 := ⟨_, rfl⟩
  rw [hl0] at hot hol hst
  obtain ⟨qv, hqv⟩ : ∃ q, quor C3.members C3.votes = q := ⟨_, rfl⟩
  rw [hqv] at hst
  have Hmb := Lib.hid hmb
  have Hot := Lib.hid hot
  have HLd := Lib.hid hld
  have Hsay := Lib.hid hsay
  have Hla := Lib.hid hla
  have FF := Lib.hid F
  have GG := Lib.hid G
  have T2 := Lib.hid (And.intro hto (And.intro hst (And.intro hln (And.intro hvt (And.intro hvl (And.intro hqv hol))))))
  clear hto hst hok hC3 hM hen hcx hf hmb hln hvt hvl hld hot hsay hla ela F G hol hl0 hqv x2 g2 T1 Hdr
  go_upto_region 4 with (fail)
  refine wp_region_S 6 (fun W => Below w2.heap.size w2 W) (.take 0 (.take 2 (.take 3 (.take 4 (.take 5 (.one 1 (.one 6 (.nil)))))))) (by kernel_rfl) (Below.refl _ _).drew (fun _ _ _ _ h => h) (fun hS => ?_)
  repeat (first
   | (refine wpS_take (v := ?_) rfl rfl (by rfl) ?_ ?_; rotate_left; (intro W hW; have hf := FF.out W hW; go_split_ands; go_simp; try with_reducible rfl); try simp only [Act.put, lyA, lyB, lyC])
   | (refine wpS_skip rfl rfl (by rfl) ?_; try simp only [Act.put, lyA, lyB, lyC]))
  refine wpS_one rfl (by rfl) (fun K hK => ?_)
  go_simp
  go_at_call 62
  refine (Hmb.out).mono ?_
  intro e w3 h3
  obtain ⟨A3, n3, c3, rfl, o3, hb3⟩ := h3
  have hS3 : Below w2.heap.size w2 w3 := (Below.refl _ _).drew.trans hb3
  have hn3 : n3 ≤ 7 := by have := ii_len (Rd.of_own o3); have := T2.out.2.2.1; omega
  have hq3 := quorum_any A3 n3 c3 C3.members M.V M.nv M.cv C3.votes w3 (Rd.of_own o3) (by omega) (T2.out.2.2.2.1.below hS3) T2.out.2.2.2.2.1
  rw [T2.out.2.2.2.2.2.1] at hq3
  have Hq3 := Lib.hid hq3
  clear o3 hb3 hq3
  refine hK (fun W => Below w2.heap.size w2 W) _ _ (fun _ h => h) hS3 ?_
  clear hK K
  try simp only [Act.put, lyA, lyB, lyC]
  refine wpS_last rfl (by rfl) (fun K hK => ?_)
  go_simp
  go_at_call 61
  refine Hq3.out.mono ?_
  rintro e w4 ⟨rfl, rfl⟩
  refine hK _ _ ?_
  clear hK K
  try simp only [Act.put, lyA, lyB, lyC]
  refine wpS_nil ?_
  clear hS
  cases qv with
  | true =>
   have hld := HLd.out _ hS3
   have Hld := Lib.hid hld
   clear hld
   go_wp2_with fail
   refine Hld.out.mono ?_
   intro e w5 h5
   obtain ⟨A5, n5, c5, X5, V5, U5, M5, rfl, j1, j2, j3, j4⟩ := h5
   have K5 := Lib.hid (And.intro j1 (And.intro j2 (And.intro j3 j4)))
   clear j1 j2 j3 j4
   go_wp2_with fail
   go_ret
   rw [T2.out.2.1, if_pos (by trivial)]
   exact OutPost.up (T2.out.1.below hS3) ⟨A5, n5, c5, X5, V5, U5, M5, rfl, K5.out.1, K5.out.2.1, K5.out.2.2.1, K5.out.2.2.2⟩
  | false =>
   have hot := Hot.out _ hS3
   have Hot3 := Lib.hid hot
   clear hot
   go_wp2_with fail
   refine Hot3.out.mono ?_
   intro e w5 h5
   obtain ⟨A0, n0, c0, rfl, o0, hb5⟩ := h5
   have hl : l0.length = n0 := by have := o0.1; simpa [ii] using this
   have hS5 : Below w2.heap.size w2 w5 := hS3.trans (hb5.mono hS3.size)
   have O := Lib.hid (And.intro o0 (And.intro hS5 hl))
   clear o0 hb5 hl hS5
   go_wp2_with fail
   go_loopg [5, 7, 8, 57] n0 (fun gm s5 s7 s8 s57 wr => ∃ (j : Nat) (A : Option Addr) (c : Nat) (X : List Mr), gm = n0 - j ∧ j ≤ n0 ∧ s57 = .int .i64 j ∧ s5 = .slice A j c ∧ Rm wr w5.heap.size A j c X ∧ X.map Mr.ms = (l0.take j).map (fun w => { C3.say 1 w with ix := lstA C3.s.b C3.s.l, lt := lstB C3.s.t C3.s.l }) ∧ Below w5.heap.size w5 wr)
   case atStart => exact ⟨0, none, 0, [], by omega, by omega, rfl, rfl, Rm.nil _ _, rfl, Below.refl _ _⟩
   case round =>
    obtain ⟨j, A, c, X, hm, hj, rfl, rfl, hR⟩ := hrel
    have Hm := Lib.hid hm
    have R := Lib.hid hR
    clear hm hR
    by_cases hlt : j < n0
    ·have hltI : decide ((j : Int) < (n0 : Int)) = true := decide_eq_true (by omega)
     have rd := (Rd.of_own O.out.1).below R.out.2.2
     obtain ⟨b, o, x, rfl, _, _, hx, hc⟩ := ii_cell rd hlt
     have htk : l0.take (j + 1) = l0.take j ++ [x] := by rw [List.take_add_one, hx]; rfl
     have hbr : Below w2.heap.size w2 wr := O.out.2.1.trans (R.out.2.2.mono O.out.2.1.size)
     have B := Lib.hid (And.intro htk hbr)
     clear rd htk hbr hx
     go_wp2_with fail
     refine (Hsay.out x wr B.out.2).mono ?_
     rintro e w6 ⟨rfl, hb6⟩
     unfold Mr.val Cr.sayM
     dsimp only
     have hb26 : Below w2.heap.size w2 w6 := B.out.2.trans (hb6.mono B.out.2.size)
     go_upto_region 11 with (fail)
     obtain ⟨W7, hW7⟩ : ∃ W7, W7 = w6.alloc (.cells #[.int .i64 1, .int .i64 C3.id, .int .i64 x, .int .i64 C3.s.tm, .int .i64 0, .int .i64 0, .int .i64 0, .int .i64 0, .bool false, .int .i64 0, .slice none 0 0, .slice none 0 0] 78) := ⟨_, rfl⟩
     have z7 : Bx W7 w6.heap.size #[.int .i64 1, .int .i64 C3.id, .int .i64 x, .int .i64 C3.s.tm, .int .i64 0, .int .i64 0, .int .i64 0, .int .i64 0, .bool false, .int .i64 0, .slice none 0 0, .slice none 0 0] := by subst hW7; exact Bx.new _ _ _ rfl
     have hb67 : Below w6.heap.size w6 W7 := by subst hW7; exact (Below.refl _ _).alloc (Nat.le_refl _) _
     have hb27 : Below w2.heap.size w2 W7 := hb26.trans (hb67.mono hb26.size)
     rw [← hW7]
     obtain ⟨c2, c3, c4⟩ := GG.out W7 hb27
     have Z7 := Lib.hid (And.intro z7 (And.intro hb67 (And.intro hb27 hb6)))
     clear z7 hb67 hb27 hW7 hb26 hb6
     go_wp2_with fail
     refine (Hla.out W7 Z7.out.2.2.1).mono ?_
     rintro e w8 ⟨rfl, hb8⟩
     have z8 := Z7.out.1.below hb8
     have q4 : w8.cell? ⟨w6.heap.size, 4, none⟩ = some (.int .i64 0) := z8.c 4
     have q5 : w8.cell? ⟨w6.heap.size, 5, none⟩ = some (.int .i64 0) := z8.c 5
     have p4 := z8.f 4
     have p5 := z8.f 5
     have Z8 := Lib.hid (And.intro z8 hb8)
     clear z8 hb8 c2 c3 c4
     go_upto_region 12 with (fail)
     obtain ⟨W9, hW9⟩ : ∃ W9, W9 = (w8.setCell ⟨w6.heap.size, 4, none⟩ (.int .i64 (lstA C3.s.b C3.s.l))).setCell ⟨w6.heap.size, 5, none⟩ (.int .i64 (lstB C3.s.t C3.s.l)) := ⟨_, rfl⟩
     have z9 : Bx W9 w6.heap.size #[.int .i64 1, .int .i64 C3.id, .int .i64 x, .int .i64 C3.s.tm, .int .i64 (lstA C3.s.b C3.s.l), .int .i64 (lstB C3.s.t C3.s.l), .int .i64 0, .int .i64 0, .bool false, .int .i64 0, .slice none 0 0, .slice none 0 0] := by subst hW9; exact (Z8.out.1.set 4 _).set 5 _
     have hb9 : Below w6.heap.size w6 W9 := by subst hW9; exact ((Z7.out.2.1.trans (Z8.out.2.mono Z7.out.2.1.size)).setCell (Nat.le_refl _) _).setCell (Nat.le_refl _) _
     have hr9 : Below wr.heap.size wr W9 := Z7.out.2.2.2.trans (hb9.mono Z7.out.2.2.2.size)
     rw [← hW9]
     clear hW9 q4 q5 p4 p5
     obtain ⟨g0, g1, g2, g3, g4, g5, g6, g7, g8, g9, g10, g11⟩ := z9.c12
     have rm9 := R.out.1.below hr9
     have hz9 : w5.heap.size ≤ W9.heap.size := Nat.le_trans R.out.2.2.size hr9.size
     have hj4 : j < 7 := by have := O.out.2.2; have := T2.out.2.2.2.2.2.2; omega
     have K9 := Lib.hid (And.intro rm9 (And.intro hr9 hz9))
     obtain ⟨y, hy⟩ : ∃ y : Mr, y = ⟨1, C3.id, x, C3.s.tm, lstA C3.s.b C3.s.l, lstB C3.s.t C3.s.l, 0, 0, false, 0, none, 0, 0, [], none, 0, 0, []⟩ := ⟨_, rfl⟩
     have Y := Lib.hid hy
     clear z9 hb9 hr9 rm9 hz9 hy Z7 Z8
     go_wp2_with (at_builtin; refine wpList_append_any (news := mcell ⟨1, C3.id, x, C3.s.tm, lstA C3.s.b C3.s.l, lstB C3.s.t C3.s.l, 0, 0, false, 0, none, 0, 0, [], none, 0, 0, []⟩) _ Tryz.underlying54 msg_elem rfl (by omega) rfl rfl rfl (K9.out.1.alloc _).ow rfl (show Rd _ _ 12 _ 1 (mcell ⟨1, C3.id, x, C3.s.tm, lstA C3.s.b C3.s.l, lstB C3.s.t C3.s.l, 0, 0, false, 0, none, 0, 0, [], none, 0, 0, []⟩) from Rd.blitg (cs := Mr.cells ⟨1, C3.id, x, C3.s.tm, lstA C3.s.b C3.s.l, lstB C3.s.t C3.s.l, 0, 0, false, 0, none, 0, 0, [], none, 0, 0, []⟩) rfl (by simp)) (by intro u hu; exact mcell_one [⟨1, C3.id, x, C3.s.tm, lstA C3.s.b C3.s.l, lstB C3.s.t C3.s.l, 0, 0, false, 0, none, 0, 0, [], none, 0, 0, []⟩] u (by simpa [flat] using hu)) (by omega) (by have := K9.out.2.2; simp; omega) rfl rfl ?_; intro A1 c1 w10 hown1 hg1 hat1)
     go_roundg (n0 - (j + 1))
     case measure => have := Hm.out; omega
     case rel =>
      have hal : ∀ o, Below W9.heap.size W9 (W9.alloc o) := fun o => (Below.refl _ _).alloc (Nat.le_refl _) o
      have hyat : ∀ W ok, Mr.At y W ok := fun W ok => by rw [Y.out]; exact ⟨Rd.none_, ⟨Nat.le_refl _, by simp [maxLen]⟩, Rd.none_, (fun y hy => by cases hy), ⟨Nat.le_refl _, by simp [maxLen]⟩⟩
      refine ⟨j + 1, A1, c1, X ++ [y], rfl, by omega, rfl, rfl, ?_, ?_, ?_⟩
      ·refine (K9.out.1.alloc _).push (hyat _ _) ?_ hg1 hat1
       rw [Y.out]
       exact hown1
      ·rw [B.out.1, List.map_append, List.map_append, R.out.2.1, Y.out]
       rfl
      ·exact ((R.out.2.2.trans (K9.out.2.1.mono R.out.2.2.size)).trans ((hal _).mono K9.out.2.2)).grown hg1 (by have := K9.out.2.2; simp; omega) fun b e => (own_lt R.out.1.ow b e).1
    ·have hltI : decide ((j : Int) < (n0 : Int)) = false := decide_eq_false (by omega)
     obtain rfl : j = n0 := by omega
     go_wp2_with fail
     go_ret
     have e1 : l0.take j = l0 := List.take_of_length_le (by have := O.out.2.2; omega)
     have hR := R.out
     rw [e1] at hR
     rw [T2.out.2.1, if_neg (by intro h; cases h)]
     have hbr : Below w2.heap.size w2 wr := O.out.2.1.trans (hR.2.2.mono O.out.2.1.size)
     have hto := T2.out.1.below hbr
     refine ⟨A, j, c, X, _, _, _, rfl, hR.1.mono ?_, hR.2.1, fun x hx => (hR.1.at_ hx).mono fun b hb hu => ?_, hto⟩
     ·exact Nat.le_trans T2.out.1.kept.size O.out.2.1.size
     ·have := T2.out.1.cx.ul b hu
      have := O.out.2.1.size
      omega
end Go.Proofs.YtmhaahcbmdhinaaGreatDoor
