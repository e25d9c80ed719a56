/- Walks: (*raft.Core).upto, members.
   Walks: (*raft.Core).members, Conf.
   Walks: (*raft.Core).of.
   Walks: (*raft.Core).follow.
   Walks: (*raft.Core).say.
   Walks: (*raft.Core).ours. -/
import Derived.Test.YtmhaahcbmdhinaaGreatDoorZM17
import Derived.Test.YtmhaahcbmdhinaaGreatDoorZM5
import Derived.Test.YtmhaahcbmdhinaaGreatDoorZM16
import Derived.Test.YtmhaahcbmdhinaaGreatDoorZM1
namespace Go.Proofs.YtmhaahcbmdhinaaGreatDoor
open Go.RowKit
set_option maxRecDepth 100000
set_option linter.unusedVariables false
set_option linter.unusedSimpArgs false
def ConfPost (W : World) (l : List Int) (e : Ending) (w' : World) : Prop := ∃ A n c, e = .returned (.slice A n c) ∧ w'.ownsRow W.heap.size 3 1 (.slice A n c) n (ii l) ∧ Below W.heap.size W w'
set_option maxHeartbeats 1600000 in
theorem upto_any {fb p : Nat} {w : World} {V U : Nat → Prop} {C : Cr} {m : Mb} (ix : Int) (h : CX fb w p V U C m) (hf : m.s.Fit) (hev : EvW w w.heap.size) :
  Calls Tryz.prog 111 #[.pointer (some ⟨p, 0, none⟩), .int .i64 ix] w (ConfPost w (C.upto ix)) := by
 have c4 : w.cell? ⟨p, 4, none⟩ = some (.slice m.s.A m.s.n m.s.c) := h.bx.c 4
 have hmb := member_any p ix m.s.A m.s.n m.s.c m.s.L w c4 h.at_.l hf.z.1
 have hcl := fun W (hb : Below w.heap.size w W) => cloneC_any m.s.C m.s.nc m.s.cc m.s.cf W (h.at_.cf.below hb) hf.z.2.1
 have hdc := fun x (hx : x ∈ m.s.L) W (hb : Below w.heap.size w W) => cdec_any x.A x.n x.m x.d W ((h.at_.d x hx).1.below hb) (h.at_.d x hx).2.1 (h.at_.d x hx).2.2 ((hev.below hb (Nat.le_refl _)).mono hb.size)
 obtain ⟨_, _, _, _, k5, k6, _⟩ := h.s_eq
 have hu : C.upto ix = match m.s.L.reverse.find? (mch ix) with
   | none => m.s.cf
   | some x => (confD x.d).getD m.s.cf := by
  unfold Cr.upto
  rw [← k5, memE_er, ← k6]
  cases m.s.L.reverse.find? (mch ix) <;> rfl
 have hc5 : ∀ W, Below w.heap.size w W → W.cell? ⟨p, 5, none⟩ = some (.slice m.s.C m.s.nc m.s.cc) := fun W hb => (h.bx.below hb).c 5
 have hmem : ∀ x, m.s.L.reverse.find? (mch ix) = some x → x ∈ m.s.L := fun x hx => List.mem_reverse.1 (List.mem_of_find?_eq_some hx)
 have K := Lib.hid (And.intro hcl (And.intro hdc (And.intro hu (And.intro hc5 hmem))))
 have Hmb := Lib.hid hmb
 clear h hf hev hmb hcl hdc hu hc5 hmem k5 k6 c4
 go_enter Tryz.func111, Tryz.ntmps111
 go_wp2_with fail
 refine Hmb.out.mono ?_
 rintro e w1 ⟨hb1, hm1⟩
 obtain ⟨q, hq⟩ : ∃ q, m.s.L.reverse.find? (mch ix) = q := ⟨_, rfl⟩
 rw [hq] at hm1
 have c5 := K.out.2.2.2.1 w1 hb1
 have HB1 := Lib.hid hb1
 have HQ := Lib.hid hq
 clear hb1 hq
 cases q with
 | none =>
  dsimp only at hm1
  subst hm1
  go_wp2_with fail
  refine (K.out.1 w1 HB1.out).mono ?_
  rintro e w2 ⟨A2, c2, rfl, o2, hb2⟩
  go_wp2_with fail
  go_ret
  rw [K.out.2.2.1, HQ.out]
  exact ⟨A2, _, c2, rfl, own_mono o2 HB1.out.size, HB1.out.trans (hb2.mono HB1.out.size)⟩
 | some x =>
  obtain ⟨B, rfl, hB, bB⟩ := hm1
  obtain ⟨d0, d1, d2, d3, _⟩ := bB.c4
  have Hdc := Lib.hid (K.out.2.1 x (K.out.2.2.2.2 x HQ.out) w1 HB1.out)
  go_wp2_with fail
  refine Hdc.out.mono ?_
  intro e w2 hp2
  obtain ⟨q2, hq2⟩ : ∃ q, confD x.d = q := ⟨_, rfl⟩
  rw [hq2] at hp2
  cases q2 with
  | none =>
   obtain ⟨rfl, hb2⟩ := hp2
   rw [errE_ne (by decide)]
   have hb12 := HB1.out.trans (hb2.mono HB1.out.size)
   have c5' := K.out.2.2.2.1 w2 hb12
   have HB2 := Lib.hid (And.intro hb12 hq2)
   clear hb2 hb12 hq2 c5
   go_wp2_with fail
   refine (K.out.1 w2 HB2.out.1).mono ?_
   rintro e w3 ⟨A3, c3, rfl, o3, hb3⟩
   go_wp2_with fail
   go_ret
   rw [K.out.2.2.1, HQ.out]
   dsimp only
   rw [HB2.out.2]
   exact ⟨A3, _, c3, rfl, own_mono o3 HB2.out.1.size, HB2.out.1.trans (hb3.mono HB2.out.1.size)⟩
  | some l =>
   obtain ⟨A2, n2, c2, rfl, o2, hb2⟩ := hp2
   rw [errE0]
   have HB2 := Lib.hid (And.intro hb2 hq2)
   clear hb2 hq2
   go_wp2_with fail
   go_ret
   rw [K.out.2.2.1, HQ.out]
   dsimp only
   rw [HB2.out.2]
   exact ⟨A2, n2, c2, rfl, own_mono o2 HB1.out.size, HB1.out.trans (HB2.out.1.mono HB1.out.size)⟩
set_option maxHeartbeats 1600000 in
theorem members_any {fb p : Nat} {w : World} {V U : Nat → Prop} {C : Cr} {m : Mb} (h : CX fb w p V U C m) (hf : m.s.Fit) (hm : C.s.may = true) (hev : EvW w w.heap.size) :
  Calls Tryz.prog 62 #[.pointer (some ⟨p, 0, none⟩)] w (ConfPost w C.members) := by
 have hl := clast_any h hf hm
 have hu := fun W (hb : Below w.heap.size w W) => upto_any C.last (h.below hb) hf ((hev.below hb (Nat.le_refl _)).mono hb.size)
 have Hl := Lib.hid hl
 have Hu := Lib.hid hu
 clear h hf hm hev hl hu
 go_enter Tryz.func62, Tryz.ntmps62
 go_wp2_with fail
 refine Hl.out.mono ?_
 rintro e w1 ⟨rfl, hb1⟩
 go_wp2_with fail
 refine (Hu.out w1 hb1).mono ?_
 intro e w2 h2
 obtain ⟨A, n, c, rfl, o2, hb2⟩ := h2
 go_wp2_with fail
 go_ret
 exact ⟨A, n, c, rfl, own_mono o2 hb1.size, hb1.trans (hb2.mono hb1.size)⟩
set_option maxHeartbeats 1600000 in
theorem cconf_any {fb p : Nat} {w : World} {V U : Nat → Prop} {C : Cr} {m : Mb} (h : CX fb w p V U C m) (hf : m.s.Fit) (hm : C.s.may = true) (hev : EvW w w.heap.size) :
  Calls Tryz.prog 48 #[.pointer (some ⟨p, 0, none⟩)] w (ConfPost w C.members) := by
 have Hl := Lib.hid (members_any h hf hm hev)
 clear h hf hm hev
 go_enter Tryz.func48, Tryz.ntmps48
 go_wp2_with fail
 refine Hl.out.mono ?_
 intro e w2 h2
 obtain ⟨A, n, c, rfl, o2, hb2⟩ := h2
 go_wp2_with fail
 go_ret
 exact ⟨A, n, c, rfl, o2, hb2⟩
theorem bset4 {B g : Nat} {a w : World} (h : Below B a w) (hg : B ≤ g) (v0 v1 v2 v3 : Value) : Below B a ((((w.setCell ⟨g, 0, none⟩ v0).setCell ⟨g, 1, none⟩ v1).setCell ⟨g, 2, none⟩ v2).setCell ⟨g, 3, none⟩ v3) :=
 (((h.setCell (p := ⟨g, 0, none⟩) hg _).setCell (p := ⟨g, 1, none⟩) hg _).setCell (p := ⟨g, 2, none⟩) hg _).setCell (p := ⟨g, 3, none⟩) hg _
set_option maxHeartbeats 1600000 in
theorem of_any {fb p : Nat} {w : World} {V U : Nat → Prop} {C : Cr} {m : Mb} (who : Int) (h : CX fb w p V U C m) (hf : m.s.Fit) (hm : C.s.may = true) (hw : I64 who) (hl : C.last < 4611686018427387904) (hl0 : -4611686018427387904 < C.last) :
  Calls Tryz.prog 107 #[.pointer (some ⟨p, 0, none⟩), .int .i64 who] w (fun e w' => e = .returned (peV (C.of who)) ∧ Below w.heap.size w w') := by
 obtain ⟨W0, hW0⟩ : ∃ W0, W0 = w.alloc (.cells #[.int .i64 0, .int .i64 0, .int .i64 0, .int .i64 0] 130) := ⟨_, rfl⟩
 have hb0 : Below w.heap.size w W0 := by subst hW0; exact (Below.refl _ _).alloc (Nat.le_refl _) _
 have hk := (h.pm.below hb0).look hw
 have c16 : W0.cell? ⟨p, 16, none⟩ = some (.map (some m.q)) := (h.below hb0).bx.c 16
 have hlast := fun W (hb : Below w.heap.size w W) => clast_any (h.below hb) hf hm
 have b0 : Bx W0 w.heap.size #[.int .i64 0, .int .i64 0, .int .i64 0, .int .i64 0] := by subst hW0; exact Bx.new _ _ _ rfl
 have hz : W0.heap.size = w.heap.size + 1 := by subst hW0; simp
 have HW := Lib.hid hW0
 have K := Lib.hid (And.intro hb0 (And.intro hlast (And.intro b0 hz)))
 have e1 : IntKind.i64.wrap (C.last + 1) = C.last + 1 := by rw [IntKind.wrap_i64]; omega
 clear h hf hm hlast hb0 b0 hW0 hz
 obtain ⟨q, hq⟩ : ∃ q, C.peers who = q := ⟨_, rfl⟩
 have e2 : C.of who = q.getD ⟨C.last + 1, 0, 0, 0⟩ := by unfold Cr.of; rw [hq]
 rw [hq] at hk
 have E := Lib.hid e2
 clear e2 hq
 cases q with
 | none =>
  have hk2 : (Instr.lookup 106 (.map (some m.q)) (.int .i64 who) true).run Tryz.prog W0 = .ok (.tuple #[.agg #[.int .i64 0, .int .i64 0, .int .i64 0, .int .i64 0], .bool false]) W0 := hk
  clear hk
  go_enter Tryz.func107, Tryz.ntmps107
  go_upto_region 1 with (fail)
  rw [← HW.out]
  go_wp2_with fail
  have hb2 : Below w.heap.size w (W0.alloc (.cells #[.int .i64 0, .int .i64 0, .int .i64 0, .int .i64 0] 130)) := K.out.1.alloc K.out.1.size _
  refine (K.out.2.1 _ hb2).mono ?_
  rintro e w3 ⟨rfl, hb3⟩
  have hz := K.out.2.2.2
  obtain ⟨r0, r1, r2, r3, f0, f1, f2, f3⟩ := ((K.out.2.2.1.alloc (.cells #[.int .i64 0, .int .i64 0, .int .i64 0, .int .i64 0] 130)).below hb3).c4
  obtain ⟨s0, s1, s2, s3, g0, g1, g2, g3⟩ := ((Bx.new W0 #[.int .i64 0, .int .i64 0, .int .i64 0, .int .i64 0] 130 rfl).below hb3).c4
  rw [hz] at s0 s1 s2 s3 g0 g1 g2 g3
  have HB3 := Lib.hid (And.intro hb2 hb3)
  clear hb2 hb3
  go_wp2_with fail
  refine bodyPost_ret (by simp [results, Tryz.results107, go_sem, r0, r1, r2, r3]; rfl) rfl ?_
  rw [E.out]
  have hb4 : Below w.heap.size w w3 := HB3.out.1.trans (HB3.out.2.mono HB3.out.1.size)
  exact ⟨rfl, bset4 (bset4 hb4 (Nat.le_succ _) _ _ _ _) (Nat.le_refl _) _ _ _ _⟩
 | some q =>
  have hk2 : (Instr.lookup 106 (.map (some m.q)) (.int .i64 who) true).run Tryz.prog W0 = .ok (.tuple #[.agg #[.int .i64 q.nx, .int .i64 q.mt, .int .i64 q.of, .int .i64 q.rd], .bool true]) W0 := hk
  clear hk
  go_enter Tryz.func107, Tryz.ntmps107
  go_upto_region 1 with (fail)
  rw [← HW.out]
  obtain ⟨r0, r1, r2, r3, f0, f1, f2, f3⟩ := (K.out.2.2.1.alloc (.cells #[.int .i64 q.nx, .int .i64 q.mt, .int .i64 q.of, .int .i64 q.rd] 130)).c4
  go_wp2_with fail
  refine bodyPost_ret (by simp [results, Tryz.results107, go_sem, r0, r1, r2, r3]; rfl) rfl ?_
  rw [E.out]
  exact ⟨rfl, ((((K.out.1.alloc K.out.1.size _).setCell (Nat.le_refl _) _).setCell (Nat.le_refl _) _).setCell (Nat.le_refl _) _).setCell (Nat.le_refl _) _⟩
theorem CX.hold' {fb p : Nat} {w w' : World} {V U : Nat → Prop} {C C' : Cr} {m : Mb} (h : CX fb w p V U C m) (hb : Bx w' p (m.cells C')) (hk : ∀ b, b < w.heap.size → b ≠ p → w'.heap[b]? = w.heap[b]?) (hz : w.heap.size ≤ w'.heap.size) (h1 : C'.s = C.s) (h2 : C'.peers = C.peers) (h3 : C'.votes = C.votes) (h4 : C'.hv = C.hv) : CX fb w' p V U C' m := by
 have hp : U p := h.vu p h.vp
 refine ⟨hb, ?_, h.vp, h.vq, h.qp, h.vv, h.vu, h.vf, fun b hb => Nat.lt_of_lt_of_le (h.ul b hb) hz, ?_, h.at_.keep fun b hb hl => hk b hl (fun e => hb (e ▸ hp)), h1 ▸ h.st, ?_, h.hk⟩
 ·rw [h2]; exact h.pm.keep (hk _ h.pm.lt h.qp)
 ·rw [h3]
  refine ⟨h.vt.1, ?_⟩
  rcases h.vt.2 with h1 | ⟨g, cap, cur, h1, h2, h3, h4⟩
  ·exact .inl h1
  ·refine .inr ⟨g, cap, cur, h1, h2, ?_, h4⟩
   rw [hk g (Array.getElem?_eq_some_iff.1 h3).1 (h.vv g (by injection h1 with h1; rw [h1]; rfl)).2.1, h3]
 ·rw [h4]; exact h.hv.keep fun b hb hl => hk b hl (fun e => hb (e ▸ hp))
theorem CX.to {fb p : Nat} {w w' : World} {V U : Nat → Prop} {C C' : Cr} {m : Mb} (h : CX fb w p V U C m) (hb : Bx w' p (m.cells C')) (hk : w.grownBy w' (some p)) (h1 : C'.s = C.s) (h2 : C'.peers = C.peers) (h3 : C'.votes = C.votes) (h4 : C'.hv = C.hv) : CX fb w' p V U C' m := by
 refine h.hold' hb ?_ hk.size h1 h2 h3 h4
 exact fun b hl hb => hk.block b hl fun e => hb (by injection e)
set_option maxHeartbeats 1600000 in
theorem follow_any {fb p : Nat} {w : World} {V U : Nat → Prop} {C : Cr} {m : Mb} (leader : Int) (h : CX fb w p V U C m) :
  Calls Tryz.prog 66 #[.pointer (some ⟨p, 0, none⟩), .int .i64 leader] w (fun e w' => e = .returned (.tuple #[]) ∧ CTo fb w p V U (C.follow leader) w' V U m) := by
 have c7 : w.cell? ⟨p, 7, none⟩ = some (.int .i64 C.role) := h.bx.c 7
 have c8 : w.cell? ⟨p, 8, none⟩ = some (.int .i64 C.leader) := h.bx.c 8
 have f7 := h.bx.f 7
 have f8 := h.bx.f 8
 have H := Lib.hid h
 clear h
 go_enter Tryz.func66, Tryz.ntmps66
 go_wp2_with fail
 refine bodyPost_end (results_none rfl _ _ _) (by rfl) ?_
 have hg : w.grownBy ((w.setCell ⟨p, 7, none⟩ (.int .i64 0)).setCell ⟨p, 8, none⟩ (.int .i64 leader)) (some p) := gb_trans (gb_set _ p 7 _) (gb_set _ p 8 _)
 refine ⟨rfl, H.out.to ((H.out.bx.set 7 _).set 8 _) hg rfl rfl rfl rfl, fun _ h => .inl h, fun _ h => h, fun _ h => .inl h, (Kept.refl V w).grown hg fun b e => ?_⟩
 injection e with e
 subst e
 exact H.out.vp
theorem bset12 {B g : Nat} {a w : World} (h : Below B a w) (hg : B ≤ g) (v0 v1 v2 v3 v4 v5 v6 v7 v8 v9 v10 v11 : Value) : Below B a ((((((((((((w.setCell ⟨g, 0, none⟩ v0).setCell ⟨g, 1, none⟩ v1).setCell ⟨g, 2, none⟩ v2).setCell ⟨g, 3, none⟩ v3).setCell ⟨g, 4, none⟩ v4).setCell ⟨g, 5, none⟩ v5).setCell ⟨g, 6, none⟩ v6).setCell ⟨g, 7, none⟩ v7).setCell ⟨g, 8, none⟩ v8).setCell ⟨g, 9, none⟩ v9).setCell ⟨g, 10, none⟩ v10).setCell ⟨g, 11, none⟩ v11) :=
 ((((((((((((h.setCell (p := ⟨g, 0, none⟩) hg _).setCell (p := ⟨g, 1, none⟩) hg _).setCell (p := ⟨g, 2, none⟩) hg _).setCell (p := ⟨g, 3, none⟩) hg _).setCell (p := ⟨g, 4, none⟩) hg _).setCell (p := ⟨g, 5, none⟩) hg _).setCell (p := ⟨g, 6, none⟩) hg _).setCell (p := ⟨g, 7, none⟩) hg _).setCell (p := ⟨g, 8, none⟩) hg _).setCell (p := ⟨g, 9, none⟩) hg _).setCell (p := ⟨g, 10, none⟩) hg _).setCell (p := ⟨g, 11, none⟩) hg _)
def Cr.sayM (C : Cr) (kind dst : Int) : Mr := ⟨kind, C.id, dst, C.s.tm, 0, 0, 0, 0, false, 0, none, 0, 0, [], none, 0, 0, []⟩
set_option maxHeartbeats 3200000 in
theorem say_any {fb p : Nat} {w : World} {V U : Nat → Prop} {C : Cr} {m : Mb} (kind dst : Int) (h : CX fb w p V U C m) :
  Calls Tryz.prog 113 #[.pointer (some ⟨p, 0, none⟩), .int .i64 kind, .int .i64 dst] w (fun e w' => e = .returned (C.sayM kind dst).val ∧ Below w.heap.size w w') := by
 obtain ⟨W0, hW0⟩ : ∃ W0, W0 = w.alloc (.cells #[.int .i64 0, .int .i64 0, .int .i64 0, .int .i64 0, .int .i64 0, .int .i64 0, .int .i64 0, .int .i64 0, .bool false, .int .i64 0, .slice none 0 0, .slice none 0 0] 78) := ⟨_, rfl⟩
 have hb0 : Below w.heap.size w W0 := by subst hW0; exact (Below.refl _ _).alloc (Nat.le_refl _) _
 have b0 : Bx W0 w.heap.size #[.int .i64 0, .int .i64 0, .int .i64 0, .int .i64 0, .int .i64 0, .int .i64 0, .int .i64 0, .int .i64 0, .bool false, .int .i64 0, .slice none 0 0, .slice none 0 0] := by subst hW0; exact Bx.new _ _ _ rfl
 have c0 : W0.cell? ⟨p, 0, none⟩ = some (.int .i64 m.s.tm) := (h.below hb0).bx.c 0
 have c11 : W0.cell? ⟨p, 11, none⟩ = some (.int .i64 C.id) := (h.below hb0).bx.c 11
 rw [h.s_eq.1] at c0
 have HW := Lib.hid hW0
 have K := Lib.hid (And.intro hb0 b0)
 have r0 := b0.c 0
 have r1 := b0.c 1
 have r2 := b0.c 2
 have r3 := b0.c 3
 have r4 := b0.c 4
 have r5 := b0.c 5
 have r6 := b0.c 6
 have r7 := b0.c 7
 have r8 := b0.c 8
 have r9 := b0.c 9
 have r10 := b0.c 10
 have r11 := b0.c 11
 have f0 := b0.f 0
 have f1 := b0.f 1
 have f2 := b0.f 2
 have f3 := b0.f 3
 have f4 := b0.f 4
 have f5 := b0.f 5
 have f6 := b0.f 6
 have f7 := b0.f 7
 have f8 := b0.f 8
 have f9 := b0.f 9
 have f10 := b0.f 10
 have f11 := b0.f 11
 clear h hb0 b0 hW0
 go_enter Tryz.func113, Tryz.ntmps113
 go_upto_region 1 with (fail)
 rw [← HW.out]
 go_region_law (fail)
 all_goals
  go_wp2_with fail
  refine bodyPost_ret (by simp [results, Tryz.results113, go_sem, r0, r1, r2, r3, r4, r5, r6, r7, r8, r9, r10, r11]; rfl) rfl ?_
  exact ⟨rfl, (bset12 K.out.1 (Nat.le_refl _) _ _ _ _ _ _ _ _ _ _ _ _).drew⟩
theorem CX.termOf {fb p : Nat} {w : World} {V U : Nat → Prop} {C : Cr} {m : Mb} (h : CX fb w p V U C m) (ix : Int) : compL m.s.b m.s.t (m.s.L.map en) ix = C.termOf ix := by
 obtain ⟨_, _, k3, k4, k5, _⟩ := h.s_eq
 rw [k3, k4, k5]
 rfl
theorem CX.term {fb p : Nat} {w : World} {V U : Nat → Prop} {C : Cr} {m : Mb} (h : CX fb w p V U C m) (hf : m.s.Fit) (ix : Int) (W : World) (hb : Below w.heap.size w W) :
  Calls Tryz.prog 119 #[.agg #[.int .i64 m.s.b, .int .i64 m.s.t, .slice m.s.A m.s.n m.s.c], .int .i64 ix] W (TermPost W (C.termOf ix)) := by
 rw [← h.termOf]
 exact TermA_any _ _ _ _ _ _ _ _ (h.below hb).at_.l (h.at_.wel hf) hf.z.1
set_option maxHeartbeats 1600000 in
theorem ours_any {fb p : Nat} {w : World} {V U : Nat → Prop} {C : Cr} {m : Mb} (h : CX fb w p V U C m) (hf : m.s.Fit) :
  Calls Tryz.prog 60 #[.pointer (some ⟨p, 0, none⟩)] w (BoolPost w C.ours) := by
 have c2 : w.cell? ⟨p, 2, none⟩ = some (.int .i64 m.s.b) := h.bx.c 2
 have c3 : w.cell? ⟨p, 3, none⟩ = some (.int .i64 m.s.t) := h.bx.c 3
 have c4 : w.cell? ⟨p, 4, none⟩ = some (.slice m.s.A m.s.n m.s.c) := h.bx.c 4
 have c9 : w.cell? ⟨p, 9, none⟩ = some (.int .i64 C.commit) := h.bx.c 9
 have ht := h.term hf C.commit
 have hz : ∀ W, Below w.heap.size w W → W.cell? ⟨p, 0, none⟩ = some (.int .i64 C.s.tm) := fun W hb => by rw [← h.s_eq.1]; exact (h.below hb).bx.c 0
 have ho : C.ours = decide (C.termOf C.commit = (0, C.s.tm)) := rfl
 generalize C.termOf C.commit = r at ht ho
 obtain ⟨r1, r2⟩ := r
 obtain ⟨q, hq⟩ : ∃ q, C.ours = q := ⟨_, rfl⟩
 rw [hq] at ho ⊢
 have K := Lib.hid (And.intro ht (And.intro hz ho))
 clear h hf ht hz ho hq
 by_cases h0 : r1 = 0
 ·subst h0
  by_cases e : r2 = C.s.tm
  ·have e1 : (r2 == C.s.tm) = true := by simp [e]
   go_enter Tryz.func60, Tryz.ntmps60
   go_upto_region 1 with (fail)
   go_region_law (go_simp; go_at_call 119; refine (K.out.1 _ (Below.refl _ _).drew).mono ?_; rintro e w1 ⟨rfl, hb1⟩)
   all_goals
    have c0 := K.out.2.1 w1 ((Below.refl _ _).drew.trans hb1)
    unfold errC
    go_wp2_with fail
    go_ret
    refine ⟨?_, (Below.refl _ _).drew.trans hb1⟩
    rw [K.out.2.2, e]
    simp
  ·have e1 : (r2 == C.s.tm) = false := by simp [e]
   go_enter Tryz.func60, Tryz.ntmps60
   go_upto_region 1 with (fail)
   go_region_law (go_simp; go_at_call 119; refine (K.out.1 _ (Below.refl _ _).drew).mono ?_; rintro e w1 ⟨rfl, hb1⟩)
   all_goals
    have c0 := K.out.2.1 w1 ((Below.refl _ _).drew.trans hb1)
    unfold errC
    go_wp2_with fail
    go_ret
    refine ⟨?_, (Below.refl _ _).drew.trans hb1⟩
    rw [K.out.2.2]
    simp [e]
 ·have e1 : errC r1 = .iface 105 (.int .i64 r1) := if_neg h0
  go_enter Tryz.func60, Tryz.ntmps60
  go_upto_region 1 with (fail)
  go_region_law (go_simp; go_at_call 119; refine (K.out.1 _ (Below.refl _ _).drew).mono ?_; rintro e w1 ⟨rfl, hb1⟩)
  all_goals
   go_wp2_with fail
   go_ret
   refine ⟨?_, (Below.refl _ _).drew.trans hb1⟩
   rw [K.out.2.2]
   simp [h0]
end Go.Proofs.YtmhaahcbmdhinaaGreatDoor
