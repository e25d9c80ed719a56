/- A member in memory: what stays of it.
   Walks: a member's small readers.
   Walks: (*raft.Core).upto, members.
   Walks: (*raft.Core).members, Conf.
   Walks: (*raft.Core).of. -/
import Derived.Test.YtmhaahcbmdhinaaGreatDoorKW16
import Derived.Test.YtmhaahcbmdhinaaGreatDoorKW14
import Derived.Test.YtmhaahcbmdhinaaGreatDoorKW6
namespace Go.Proofs.YtmhaahcbmdhinaaGreatDoor
open Go.RowKit
set_option linter.unusedVariables false
set_option linter.unusedSimpArgs false
section
variable {fb p : Nat} {W W' W2 : World} {V U V' U' V2 U2 : Nat → Prop} {C C' C2 : Cr} {m m' m2 : Mb}
/-- Nothing of it has turned. -/
theorem CX.hold (h : CX fb W p V U C m) (hk : ∀ b, b < W.heap.size → V b ∨ ¬ U b → W'.heap[b]? = W.heap[b]?) (hz : W.heap.size ≤ W'.heap.size) : CX fb W' p V U C m := by
  have hv : ∀ b, V b → W'.heap[b]? = W.heap[b]? := fun b hb => hk b (h.ul b (h.vu b hb)) (.inl hb)
  refine ⟨h.bx.keep (hv p h.vp), h.pm.keep (hv _ h.vq), h.vp, h.vq, h.qp, h.vv, h.vu, h.vf, fun b hb => Nat.lt_of_lt_of_le (h.ul b hb) hz, ?_, h.at_.keep fun b hb hl => hk b hl (.inr hb), h.st, h.hv.keep fun b hb hl => hk b hl (.inr hb), h.hk⟩
  refine ⟨h.vt.1, ?_⟩
  rcases h.vt.2 with h1 | ⟨g, cap, cur, h1, h2, h3, h4⟩
  · exact .inl h1
  · refine .inr ⟨g, cap, cur, h1, h2, ?_, h4⟩
    rw [hv g (h.vv g (by injection h1 with h1; rw [h1]; rfl)).1, h3]
theorem CX.below (h : CX fb W p V U C m) (hb : Below W.heap.size W W') : CX fb W' p V U C m := h.hold (fun b hl _ => hb.block b hl) hb.size
theorem CX.drew (h : CX fb W p V U C m) : CX fb W.drew p V U C m := h.hold (fun _ _ _ => rfl) (Nat.le_refl _)
/-- Somebody else has written. -/
theorem CX.other (h : CX fb W p V U C m) (hk : Kept V2 W W') (h2 : ∀ b, V2 b → U b ∧ ¬ V b) : CX fb W' p V U C m :=
  h.hold (fun b hl ho => hk.block b hl fun hv => ho.elim (fun h1 => (h2 b hv).2 h1) fun h1 => h1 (h2 b hv).1) hk.size
/-- More is somebody else's: nothing of it was there. -/
theorem CX.wide (h : CX fb W p V U C m) (hu : ∀ b, U b → U' b) (hn : ∀ b, b < W.heap.size → U' b → U b) (hk : ∀ b, b < W.heap.size → V b ∨ ¬ U b → W'.heap[b]? = W.heap[b]?) (hz : W.heap.size ≤ W'.heap.size) (hl : ∀ b, U' b → b < W'.heap.size) : CX fb W' p V U' C m := by
  have h1 := h.hold hk hz
  have hlt := h.at_.lt
  have hh := h.hv.lt (by omega)
  exact ⟨h1.bx, h1.pm, h1.vp, h1.vq, h1.qp, h1.vv, fun b hb => hu b (h1.vu b hb), h1.vf, hl, h1.vt, (hlt.keep fun b hb hl => hk b hl (.inr hb.1)).mono fun b hb h2 => hb.1 (hn b hb.2 h2), h1.st,
    (hh.keep fun b hb hl => hk b hl (.inr hb.1)).mono fun b hb h2 => hb.1 (hn b hb.2 h2), h1.hk⟩
/-- From one world to another the member has become C'. -/
structure CTo (fb : Nat) (W : World) (p : Nat) (V U : Nat → Prop) (C' : Cr) (W' : World) (V' U' : Nat → Prop) (m' : Mb) : Prop where
  cx : CX fb W' p V' U' C' m'
  vs : ∀ b, V' b → V b ∨ W.heap.size ≤ b
  us : ∀ b, U b → U' b
  un : ∀ b, U' b → U b ∨ W.heap.size ≤ b
  kept : Kept V W W'
theorem CTo.refl (h : CX fb W p V U C m) : CTo fb W p V U C W V U m := ⟨h, fun _ h => .inl h, fun _ h => h, fun _ h => .inl h, Kept.refl _ _⟩
theorem CTo.trans (h : CTo fb W p V U C W' V' U' m) (h2 : CTo fb W' p V' U' C2 W2 V2 U2 m2) : CTo fb W p V U C2 W2 V2 U2 m2 :=
  ⟨h2.cx, fun b hb => (h2.vs b hb).elim (h.vs b) fun h3 => .inr (Nat.le_trans h.kept.size h3), fun b hb => h2.us b (h.us b hb),
    fun b hb => (h2.un b hb).elim (h.un b) fun h3 => .inr (Nat.le_trans h.kept.size h3), h.kept.trans h2.kept fun b hb hv => (h.vs b hv).elim id fun h3 => by omega⟩
theorem CTo.below (h : CTo fb W p V U C W' V' U' m) (hb : Below W'.heap.size W' W2) : CTo fb W p V U C W2 V' U' m :=
  ⟨h.cx.below hb, h.vs, h.us, h.un, h.kept.trans (V := fun _ => False) (Kept.of_new hb) fun _ _ h => h.elim⟩
theorem CTo.up (hb : Below W.heap.size W W') (h : CTo fb W' p V U C W2 V' U' m) : CTo fb W p V U C W2 V' U' m :=
  ⟨h.cx, fun b hb' => (h.vs b hb').elim .inl fun h3 => .inr (Nat.le_trans hb.size h3), h.us, fun b hb' => (h.un b hb').elim .inl fun h3 => .inr (Nat.le_trans hb.size h3), (Kept.of_new hb).trans h.kept fun _ _ h => h⟩
/-- What the call may not write is as it was. -/
theorem CTo.rd {size n : Nat} {A : Option Addr} {xs : List Value} (h : CTo fb W p V U C W' V' U' m) (hu : ∀ b, V b → U b) (hr : Rd W (fun b => ¬ U b) size A n xs) (hs : 0 < size) : Rd W' (fun b => ¬ U' b) size A n xs :=
  (h.kept.rd (hr.lt hs) fun b hb hv => hb.1 (hu b hv)).mono fun b hb h2 => (h.un b h2).elim hb.1 fun h3 => by have := hb.2; omega
theorem CTo.msg {x : Mr} (h : CTo fb W p V U C W' V' U' m) (hu : ∀ b, V b → U b) (hx : x.At W (fun b => ¬ U b)) : x.At W' (fun b => ¬ U' b) :=
  ⟨h.rd hu hx.d (by omega), hx.dk, h.rd hu hx.e (by omega), fun y hy => ⟨h.rd hu (hx.ed y hy).1 (by omega), (hx.ed y hy).2⟩, hx.ek⟩
end
end Go.Proofs.YtmhaahcbmdhinaaGreatDoor

namespace Go.Proofs.YtmhaahcbmdhinaaGreatDoor
open Go.RowKit
set_option maxRecDepth 100000
set_option linter.unusedVariables false
set_option linter.unusedSimpArgs false
section
variable {fb p : Nat} {w : World} {V U : Nat → Prop} {C : Cr} {m : Mb}
theorem CX.s_eq (h : CX fb w p V U C m) : m.s.tm = C.s.tm ∧ m.s.vt = C.s.vt ∧ m.s.b = C.s.b ∧ m.s.t = C.s.t ∧ m.s.L.map en = C.s.l ∧ m.s.cf = C.s.cf ∧ m.s.sn = C.s.sn := by
  rw [← h.st]
  exact ⟨rfl, rfl, rfl, rfl, rfl, rfl, rfl⟩
theorem CX.lm (h : CX fb w p V U C m) (hm : C.s.may = true) : lmay m.s.b m.s.t (m.s.L.map en) = true := by
  have := (St.may_iff hm).1
  rw [← h.st] at this
  exact this
end
set_option maxHeartbeats 1600000 in
theorem clast_any {fb p : Nat} {w : World} {V U : Nat → Prop} {C : Cr} {m : Mb} (h : CX fb w p V U C m) (hf : m.s.Fit) (hm : C.s.may = true) :
    Calls Tryz.prog 55 #[.pointer (some ⟨p, 0, none⟩)] w (fun e w' => e = .returned (.int .i64 C.last) ∧ Below w.heap.size w w') := by
  have hl := LastA_any m.s.b m.s.t m.s.A m.s.n m.s.c m.s.L w h.at_.l (h.at_.wel hf) hf.z.1
  rw [h.lm hm, if_pos rfl, if_pos rfl] at hl
  have c2 : w.cell? ⟨p, 2, none⟩ = some (.int .i64 m.s.b) := h.bx.c 2
  have c3 : w.cell? ⟨p, 3, none⟩ = some (.int .i64 m.s.t) := h.bx.c 3
  have c4 : w.cell? ⟨p, 4, none⟩ = some (.slice m.s.A m.s.n m.s.c) := h.bx.c 4
  have e1 : lstA m.s.b (m.s.L.map en) = C.last := by
    obtain ⟨_, _, k3, _, k5, _⟩ := h.s_eq
    rw [k3, k5]
    rfl
  rw [e1] at hl
  have Hl := Lib.hid hl
  clear h hf hm hl e1
  go_enter Tryz.func55, Tryz.ntmps55
  go_wp2_with fail
  refine Hl.out.mono ?_
  rintro e w1 ⟨rfl, hb1⟩
  go_wp2_with fail
  go_ret
  exact ⟨rfl, hb1⟩
end Go.Proofs.YtmhaahcbmdhinaaGreatDoor

namespace Go.Proofs.YtmhaahcbmdhinaaGreatDoor
open Go.RowKit
set_option maxRecDepth 100000
set_option linter.unusedVariables false
set_option linter.unusedSimpArgs false
def ConfPost (W : World) (l : List Int) (e : Ending) (w' : World) : Prop := ∃ A n c, e = .returned (.slice A n c) ∧ w'.ownsRow W.heap.size 3 1 (.slice A n c) n (ii l) ∧ Below W.heap.size W w'
theorem ConfPost.up {W W' : World} {l : List Int} {e : Ending} {w' : World} (hb : Below W.heap.size W W') (h : ConfPost W' l e w') : ConfPost W l e w' := by
  obtain ⟨A, n, c, h1, h2, h3⟩ := h
  exact ⟨A, n, c, h1, own_mono h2 hb.size, hb.trans (h3.mono hb.size)⟩
set_option maxHeartbeats 1600000 in
theorem upto_any {fb p : Nat} {w : World} {V U : Nat → Prop} {C : Cr} {m : Mb} (ix : Int) (h : CX fb w p V U C m) (hf : m.s.Fit) (hev : EvW w w.heap.size) :
    Calls Tryz.prog 111 #[.pointer (some ⟨p, 0, none⟩), .int .i64 ix] w (ConfPost w (C.upto ix)) := by
  have c4 : w.cell? ⟨p, 4, none⟩ = some (.slice m.s.A m.s.n m.s.c) := h.bx.c 4
  have hmb := member_any p ix m.s.A m.s.n m.s.c m.s.L w c4 h.at_.l hf.z.1
  have hcl := fun W (hb : Below w.heap.size w W) => cloneC_any m.s.C m.s.nc m.s.cc m.s.cf W (h.at_.cf.below hb) hf.z.2.1
  have hdc := fun x (hx : x ∈ m.s.L) W (hb : Below w.heap.size w W) => cdec_any x.A x.n x.m x.d W ((h.at_.d x hx).1.below hb) (h.at_.d x hx).2.1 (h.at_.d x hx).2.2 ((hev.below hb (Nat.le_refl _)).mono hb.size)
  obtain ⟨_, _, _, _, k5, k6, _⟩ := h.s_eq
  have hu : C.upto ix = match m.s.L.reverse.find? (mch ix) with
      | none => m.s.cf
      | some x => (confD x.d).getD m.s.cf := by
    unfold Cr.upto
    rw [← k5, memE_er, ← k6]
    cases m.s.L.reverse.find? (mch ix) <;> rfl
  have hc5 : ∀ W, Below w.heap.size w W → W.cell? ⟨p, 5, none⟩ = some (.slice m.s.C m.s.nc m.s.cc) := fun W hb => (h.bx.below hb).c 5
  have hmem : ∀ x, m.s.L.reverse.find? (mch ix) = some x → x ∈ m.s.L := fun x hx => List.mem_reverse.1 (List.mem_of_find?_eq_some hx)
  have K := Lib.hid (And.intro hcl (And.intro hdc (And.intro hu (And.intro hc5 hmem))))
  have Hmb := Lib.hid hmb
  clear h hf hev hmb hcl hdc hu hc5 hmem k5 k6 c4
  go_enter Tryz.func111, Tryz.ntmps111
  go_wp2_with fail
  refine Hmb.out.mono ?_
  rintro e w1 ⟨hb1, hm1⟩
  obtain ⟨q, hq⟩ : ∃ q, m.s.L.reverse.find? (mch ix) = q := ⟨_, rfl⟩
  rw [hq] at hm1
  have c5 := K.out.2.2.2.1 w1 hb1
  have HB1 := Lib.hid hb1
  have HQ := Lib.hid hq
  clear hb1 hq
  cases q with
  | none =>
    dsimp only at hm1
    subst hm1
    go_wp2_with fail
    refine (K.out.1 w1 HB1.out).mono ?_
    rintro e w2 ⟨A2, c2, rfl, o2, hb2⟩
    go_wp2_with fail
    go_ret
    rw [K.out.2.2.1, HQ.out]
    exact ⟨A2, _, c2, rfl, own_mono o2 HB1.out.size, HB1.out.trans (hb2.mono HB1.out.size)⟩
  | some x =>
    obtain ⟨B, rfl, hB, bB⟩ := hm1
    obtain ⟨d0, d1, d2, d3, _⟩ := bB.c4
    have Hdc := Lib.hid (K.out.2.1 x (K.out.2.2.2.2 x HQ.out) w1 HB1.out)
    go_wp2_with fail
    refine Hdc.out.mono ?_
    intro e w2 hp2
    obtain ⟨q2, hq2⟩ : ∃ q, confD x.d = q := ⟨_, rfl⟩
    rw [hq2] at hp2
    cases q2 with
    | none =>
      obtain ⟨rfl, hb2⟩ := hp2
      rw [errE_ne (by decide)]
      have hb12 := HB1.out.trans (hb2.mono HB1.out.size)
      have c5' := K.out.2.2.2.1 w2 hb12
      have HB2 := Lib.hid (And.intro hb12 hq2)
      clear hb2 hb12 hq2 c5
      go_wp2_with fail
      refine (K.out.1 w2 HB2.out.1).mono ?_
      rintro e w3 ⟨A3, c3, rfl, o3, hb3⟩
      go_wp2_with fail
      go_ret
      rw [K.out.2.2.1, HQ.out]
      dsimp only
      rw [HB2.out.2]
      exact ⟨A3, _, c3, rfl, own_mono o3 HB2.out.1.size, HB2.out.1.trans (hb3.mono HB2.out.1.size)⟩
    | some l =>
      obtain ⟨A2, n2, c2, rfl, o2, hb2⟩ := hp2
      rw [errE0]
      have HB2 := Lib.hid (And.intro hb2 hq2)
      clear hb2 hq2
      go_wp2_with fail
      go_ret
      rw [K.out.2.2.1, HQ.out]
      dsimp only
      rw [HB2.out.2]
      exact ⟨A2, n2, c2, rfl, own_mono o2 HB1.out.size, HB1.out.trans (HB2.out.1.mono HB1.out.size)⟩
end Go.Proofs.YtmhaahcbmdhinaaGreatDoor

namespace Go.Proofs.YtmhaahcbmdhinaaGreatDoor
open Go.RowKit
set_option maxRecDepth 100000
set_option linter.unusedVariables false
set_option linter.unusedSimpArgs false
set_option maxHeartbeats 1600000 in
theorem members_any {fb p : Nat} {w : World} {V U : Nat → Prop} {C : Cr} {m : Mb} (h : CX fb w p V U C m) (hf : m.s.Fit) (hm : C.s.may = true) (hev : EvW w w.heap.size) :
    Calls Tryz.prog 62 #[.pointer (some ⟨p, 0, none⟩)] w (ConfPost w C.members) := by
  have hl := clast_any h hf hm
  have hu := fun W (hb : Below w.heap.size w W) => upto_any C.last (h.below hb) hf ((hev.below hb (Nat.le_refl _)).mono hb.size)
  have Hl := Lib.hid hl
  have Hu := Lib.hid hu
  clear h hf hm hev hl hu
  go_enter Tryz.func62, Tryz.ntmps62
  go_wp2_with fail
  refine Hl.out.mono ?_
  rintro e w1 ⟨rfl, hb1⟩
  go_wp2_with fail
  refine (Hu.out w1 hb1).mono ?_
  intro e w2 h2
  obtain ⟨A, n, c, rfl, o2, hb2⟩ := h2
  go_wp2_with fail
  go_ret
  exact ⟨A, n, c, rfl, own_mono o2 hb1.size, hb1.trans (hb2.mono hb1.size)⟩
end Go.Proofs.YtmhaahcbmdhinaaGreatDoor

namespace Go.Proofs.YtmhaahcbmdhinaaGreatDoor
open Go.RowKit
set_option maxRecDepth 100000
set_option linter.unusedVariables false
set_option linter.unusedSimpArgs false
theorem bset4 {B g : Nat} {a w : World} (h : Below B a w) (hg : B ≤ g) (v0 v1 v2 v3 : Value) : Below B a ((((w.setCell ⟨g, 0, none⟩ v0).setCell ⟨g, 1, none⟩ v1).setCell ⟨g, 2, none⟩ v2).setCell ⟨g, 3, none⟩ v3) :=
  (((h.setCell (p := ⟨g, 0, none⟩) hg _).setCell (p := ⟨g, 1, none⟩) hg _).setCell (p := ⟨g, 2, none⟩) hg _).setCell (p := ⟨g, 3, none⟩) hg _
set_option maxHeartbeats 1600000 in
theorem of_any {fb p : Nat} {w : World} {V U : Nat → Prop} {C : Cr} {m : Mb} (who : Int) (h : CX fb w p V U C m) (hf : m.s.Fit) (hm : C.s.may = true) (hw : I64 who) (hl : C.last < 4611686018427387904) (hl0 : -4611686018427387904 < C.last) :
    Calls Tryz.prog 107 #[.pointer (some ⟨p, 0, none⟩), .int .i64 who] w (fun e w' => e = .returned (peV (C.of who)) ∧ Below w.heap.size w w') := by
  obtain ⟨W0, hW0⟩ : ∃ W0, W0 = w.alloc (.cells #[.int .i64 0, .int .i64 0, .int .i64 0, .int .i64 0] 130) := ⟨_, rfl⟩
  have hb0 : Below w.heap.size w W0 := by subst hW0; exact (Below.refl _ _).alloc (Nat.le_refl _) _
  have hk := (h.pm.below hb0).look hw
  have c16 : W0.cell? ⟨p, 16, none⟩ = some (.map (some m.q)) := (h.below hb0).bx.c 16
  have hlast := fun W (hb : Below w.heap.size w W) => clast_any (h.below hb) hf hm
  have b0 : Bx W0 w.heap.size #[.int .i64 0, .int .i64 0, .int .i64 0, .int .i64 0] := by subst hW0; exact Bx.new _ _ _ rfl
  have hz : W0.heap.size = w.heap.size + 1 := by subst hW0; simp
  have HW := Lib.hid hW0
  have K := Lib.hid (And.intro hb0 (And.intro hlast (And.intro b0 hz)))
  have e1 : IntKind.i64.wrap (C.last + 1) = C.last + 1 := by rw [IntKind.wrap_i64]; omega
  clear h hf hm hlast hb0 b0 hW0 hz
  obtain ⟨q, hq⟩ : ∃ q, C.peers who = q := ⟨_, rfl⟩
  have e2 : C.of who = q.getD ⟨C.last + 1, 0, 0, 0⟩ := by unfold Cr.of; rw [hq]
  rw [hq] at hk
  have E := Lib.hid e2
  clear e2 hq
  cases q with
  | none =>
    have hk2 : (Instr.lookup 106 (.map (some m.q)) (.int .i64 who) true).run Tryz.prog W0 = .ok (.tuple #[.agg #[.int .i64 0, .int .i64 0, .int .i64 0, .int .i64 0], .bool false]) W0 := hk
    clear hk
    go_enter Tryz.func107, Tryz.ntmps107
    go_upto_region 1 with (fail)
    rw [← HW.out]
    go_wp2_with fail
    have hb2 : Below w.heap.size w (W0.alloc (.cells #[.int .i64 0, .int .i64 0, .int .i64 0, .int .i64 0] 130)) := K.out.1.alloc K.out.1.size _
    refine (K.out.2.1 _ hb2).mono ?_
    rintro e w3 ⟨rfl, hb3⟩
    have hz := K.out.2.2.2
    obtain ⟨r0, r1, r2, r3, f0, f1, f2, f3⟩ := ((K.out.2.2.1.alloc (.cells #[.int .i64 0, .int .i64 0, .int .i64 0, .int .i64 0] 130)).below hb3).c4
    obtain ⟨s0, s1, s2, s3, g0, g1, g2, g3⟩ := ((Bx.new W0 #[.int .i64 0, .int .i64 0, .int .i64 0, .int .i64 0] 130 rfl).below hb3).c4
    rw [hz] at s0 s1 s2 s3 g0 g1 g2 g3
    have HB3 := Lib.hid (And.intro hb2 hb3)
    clear hb2 hb3
    go_wp2_with fail
    refine bodyPost_ret (by simp [results, Tryz.results107, go_sem, r0, r1, r2, r3]; rfl) rfl ?_
    rw [E.out]
    have hb4 : Below w.heap.size w w3 := HB3.out.1.trans (HB3.out.2.mono HB3.out.1.size)
    exact ⟨rfl, bset4 (bset4 hb4 (Nat.le_succ _) _ _ _ _) (Nat.le_refl _) _ _ _ _⟩
  | some q =>
    have hk2 : (Instr.lookup 106 (.map (some m.q)) (.int .i64 who) true).run Tryz.prog W0 = .ok (.tuple #[.agg #[.int .i64 q.nx, .int .i64 q.mt, .int .i64 q.of, .int .i64 q.rd], .bool true]) W0 := hk
    clear hk
    go_enter Tryz.func107, Tryz.ntmps107
    go_upto_region 1 with (fail)
    rw [← HW.out]
    obtain ⟨r0, r1, r2, r3, f0, f1, f2, f3⟩ := (K.out.2.2.1.alloc (.cells #[.int .i64 q.nx, .int .i64 q.mt, .int .i64 q.of, .int .i64 q.rd] 130)).c4
    go_wp2_with fail
    refine bodyPost_ret (by simp [results, Tryz.results107, go_sem, r0, r1, r2, r3]; rfl) rfl ?_
    rw [E.out]
    exact ⟨rfl, ((((K.out.1.alloc K.out.1.size _).setCell (Nat.le_refl _) _).setCell (Nat.le_refl _) _).setCell (Nat.le_refl _) _).setCell (Nat.le_refl _) _⟩
end Go.Proofs.YtmhaahcbmdhinaaGreatDoor

