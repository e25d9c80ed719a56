/- Walk: (raft.Stored).own.
   Walk: a member, from what it kept: raft.New.
   Messages as they lie in memory; a member in memory.
   Between two worlds all but some blocks are as they were (cut out of c03's XDk by mk13.py).
   A member in memory: what stays of it.
   Walks: a member's small readers. -/
import Derived.Test.YtmhaahcbmdhinaaGreatDoorZM6
import Derived.Test.YtmhaahcbmdhinaaGreatDoorZM8
import Derived.Test.YtmhaahcbmdhinaaGreatDoorZM9
import Derived.Test.YtmhaahcbmdhinaaGreatDoorZM16
import Derived.Test.YtmhaahcbmdhinaaGreatDoorZM10
import Derived.Test.YtmhaahcbmdhinaaGreatDoorZM0
import Derived.Test.YtmhaahcbmdhinaaGreatDoorZM15
namespace Go.Proofs.YtmhaahcbmdhinaaGreatDoor
open Go.RowKit
set_option maxRecDepth 100000
set_option linter.unusedVariables false
set_option linter.unusedSimpArgs false
theorem bs_one' (l : List UInt8) : ∀ u ∈ bs l, u.oneCell' = true := bs_one l
def StOwn (W : World) (s : St) (e : Ending) (w' : World) : Prop :=
 ∃ s' : Sv, e = .returned s'.val ∧ s'.At w' (W.heap.size ≤ ·) ∧ s'.st = s ∧ Below W.heap.size W w'
set_option maxHeartbeats 3200000 in
theorem sown_any (tm vt b t : Int) (A : Option Addr) (n c : Nat) (L : List Er) (C : Option Addr) (nc cc : Nat) (cf : List Int) (S : Option Addr) (ns cs : Nat) (sn : List UInt8) (w : World)
  (hr : Rd w T 4 A n (flat ecell L)) (hd : Dat w L) (hw : Wel L) (hs : ∀ x ∈ L, x.n ≤ 1000000) (hm : lmay b t (L.map en) = true) (hn : n ≤ 1000000) (hnn : n ≤ c) (hcm : c ≤ maxLen) (hc : Rd w T 1 C nc (ii cf)) (hnc : nc ≤ 1000000) (hsn : Rd w T 1 S ns (bs sn)) (hns : ns ≤ 35184372088832) :
  Calls Tryz.prog 37 #[stA tm vt b t A n c C nc cc S ns cs] w (StOwn w ⟨tm, vt, b, t, L.map en, cf, sn⟩) := by
 obtain ⟨W0, hW0⟩ : ∃ W0, W0 = (w.alloc (.cells #[.int .i64 tm, .int .i64 vt, .int .i64 b, .int .i64 t, .slice A n c, .slice C nc cc, .slice S ns cs] 41)).alloc (.cells #[.int .i64 0, .int .i64 0, .int .i64 0, .int .i64 0, .slice none 0 0, .slice none 0 0, .slice none 0 0] 41) := ⟨_, rfl⟩
 have b0 : Bx W0 w.heap.size #[.int .i64 tm, .int .i64 vt, .int .i64 b, .int .i64 t, .slice A n c, .slice C nc cc, .slice S ns cs] := by subst hW0; exact (Bx.new _ _ _ rfl).alloc _
 have hbe : Below w.heap.size w W0 := by subst hW0; exact ((Below.refl _ _).alloc (Nat.le_refl _) _).alloc (by simp) _
 have hcp := comp_own b t A n c L W0 (hr.below hbe) (hd.below hbe) hw hs hm hn hnn hcm
 obtain ⟨c0, c1, c2, c3, c4, c5, c6⟩ := b0.c7
 have HW := Lib.hid hW0
 have b9 : Bx W0 (w.heap.size + 1) #[.int .i64 0, .int .i64 0, .int .i64 0, .int .i64 0, .slice none 0 0, .slice none 0 0, .slice none 0 0] := by subst hW0; exact Bx.new _ _ _ (by simp)
 have hz0 : W0.heap.size = w.heap.size + 2 := by subst hW0; simp
 have B9 := Lib.hid (And.intro b9 hz0)
 have B := Lib.hid (And.intro b0 hbe)
 have Hcp := Lib.hid hcp
 clear hW0 b0 hbe hcp b9 hz0
 unfold stA
 go_enter Tryz.func37, Tryz.ntmps37
 go_upto_region 1 with (fail)
 rw [← HW.out]
 go_wp2_with fail
 refine Hcp.out.mono ?_
 rintro e w1 ⟨A1, c1', L1, rfl, r1, d1, e1, k1, hb1⟩
 clear c0 c1 c2 c3 c4 c5 c6
 obtain ⟨c0, c1, c2, c3, c4, c5, c6⟩ := (B.out.1.below hb1).c7
 have f2 : w1.frozen? ⟨w.heap.size, 2, none⟩ = false := (B.out.1.below hb1).f 2
 have f3 : w1.frozen? ⟨w.heap.size, 3, none⟩ = false := (B.out.1.below hb1).f 3
 have f4 : w1.frozen? ⟨w.heap.size, 4, none⟩ = false := (B.out.1.below hb1).f 4
 go_upto_region 2 with (fail)
 obtain ⟨W2, hW2⟩ : ∃ W2, W2 = (((w1.setCell ⟨w.heap.size, 2, none⟩ (.int .i64 b)).setCell ⟨w.heap.size, 3, none⟩ (.int .i64 t)).setCell ⟨w.heap.size, 4, none⟩ (.slice A1 n c1')) := ⟨_, rfl⟩
 have x2 : Bx W2 w.heap.size #[.int .i64 tm, .int .i64 vt, .int .i64 b, .int .i64 t, .slice A1 n c1', .slice C nc cc, .slice S ns cs] := by
  subst hW2
  exact (((B.out.1.below hb1).set 2 _).set 3 _).set 4 _
 have y2 : Bx W2 (w.heap.size + 1) #[.int .i64 0, .int .i64 0, .int .i64 0, .int .i64 0, .slice none 0 0, .slice none 0 0, .slice none 0 0] := by
  subst hW2
  exact (((B9.out.1.below hb1).far (by simp) _).far (by simp) _).far (by simp) _
 have hz0 := B9.out.2
 have hne : ¬ W0.heap.size ≤ w.heap.size := by omega
 have r2 : Rd W2 (W0.heap.size ≤ ·) 4 A1 n (flat ecell L1) := by
  subst hW2
  exact ((r1.setCell (p := ⟨w.heap.size, 2, none⟩) hne _).setCell (p := ⟨w.heap.size, 3, none⟩) hne _).setCell (p := ⟨w.heap.size, 4, none⟩) hne _
 have d2 : DatB W2 W0.heap.size L1 := by
  subst hW2
  exact fun y hy => ⟨(((d1 y hy).1.setCell (p := ⟨w.heap.size, 2, none⟩) hne _).setCell (p := ⟨w.heap.size, 3, none⟩) hne _).setCell (p := ⟨w.heap.size, 4, none⟩) hne _, (d1 y hy).2⟩
 have hb2 : Below w.heap.size w W2 := by
  subst hW2
  exact (((B.out.2.trans (hb1.mono B.out.2.size)).setCell (Nat.le_refl _) _).setCell (Nat.le_refl _) _).setCell (Nat.le_refl _) _
 have hcc := fun W (h : Below W2.heap.size W2 W) => cloneC_any C nc cc cf W (((hc.lt (by omega)).mono fun b hb => hb.2).below (hb2.trans (h.mono hb2.size))) hnc
 have hcs := fun W (h : Below W2.heap.size W2 W) => clone_any S ns cs (bs sn) W (((hsn.lt (by omega)).mono fun b hb => hb.2).below (hb2.trans (h.mono hb2.size))) (bs_one' _) hns
 have h0z : W0.heap.size ≤ W2.heap.size := by subst hW2; simpa [World.setCell] using hb1.size
 rw [← hW2]
 clear c0 c1 c2 c3 c4 c5 c6 f2 f3 f4
 obtain ⟨c0, c1, c2, c3, c4, c5, c6⟩ := x2.c7
 have f5 : W2.frozen? ⟨w.heap.size, 5, none⟩ = false := x2.f 5
 have f6 : W2.frozen? ⟨w.heap.size, 6, none⟩ = false := x2.f 6
 have X2 := Lib.hid (And.intro x2 y2)
 have R2 := Lib.hid (And.intro r2 (And.intro d2 (And.intro e1 k1)))
 have HB2 := Lib.hid (And.intro hb2 (And.intro hne h0z))
 have Hcc := Lib.hid hcc
 have Hcs := Lib.hid hcs
 clear x2 y2 r2 d2 hb2 hne hcc hcs hW2 r1 d1 e1 k1 hb1 hz0 hc hsn hr hd hw hs hm h0z
 go_region_law (first
  | (go_simp; go_at_call 97; refine (Hcc.out _ (Below.refl _ _).drew).mono ?_; rintro e w3 ⟨A3, c3', rfl, o3, hb3⟩; have x3 := X2.out.1.drew.below hb3; have y5 := x3.c 5; have y6 := x3.c 6; have g5 := x3.f 5; have g6 := x3.f 6; have X3 := Lib.hid x3; clear x3)
  | (go_simp; go_at_call 98; refine (Hcs.out w3 ((Below.refl _ _).drew.trans hb3)).mono ?_; rintro e w4 ⟨A4, c4', rfl, o4, hb4⟩; have x4 := X3.out.below hb4; have z5 := x4.c 5; have z6 := x4.c 6; have k5 := x4.f 5; have k6 := x4.f 6; have X4 := Lib.hid x4; clear x4))
 all_goals
  obtain ⟨W5, hW5⟩ : ∃ W5, W5 = (w4.setCell ⟨w.heap.size, 5, none⟩ (.slice A3 nc c3')).setCell ⟨w.heap.size, 6, none⟩ (.slice A4 ns c4') := ⟨_, rfl⟩
  have hne := HB2.out.2.1
  have h0z := HB2.out.2.2
  have hz0 := B9.out.2
  have e2 : W2.drew.heap.size = W2.heap.size := rfl
  have x5 : Bx W5 w.heap.size #[.int .i64 tm, .int .i64 vt, .int .i64 b, .int .i64 t, .slice A1 n c1', .slice A3 nc c3', .slice A4 ns c4'] := by
   subst hW5
   exact (X4.out.set 5 _).set 6 _
  have y5' : Bx W5 (w.heap.size + 1) #[.int .i64 0, .int .i64 0, .int .i64 0, .int .i64 0, .slice none 0 0, .slice none 0 0, .slice none 0 0] := by
   subst hW5
   exact (((X2.out.2.drew.below hb3).below hb4).far (by simp) _).far (by simp) _
  have r5 : Rd W5 (W0.heap.size ≤ ·) 4 A1 n (flat ecell L1) := by
   subst hW5
   exact (((R2.out.1.drew.below hb3).below hb4).setCell (p := ⟨w.heap.size, 5, none⟩) hne _).setCell (p := ⟨w.heap.size, 6, none⟩) hne _
  have d5 : DatB W5 W0.heap.size L1 := by
   subst hW5
   exact fun y hy => ⟨((((R2.out.2.1 y hy).1.drew.below hb3).below hb4).setCell (p := ⟨w.heap.size, 5, none⟩) hne _).setCell (p := ⟨w.heap.size, 6, none⟩) hne _, (R2.out.2.1 y hy).2⟩
  have c5' : Rd W5 (W0.heap.size ≤ ·) 1 A3 nc (ii cf) := by
   subst hW5
   exact ((((Rd.of_own o3).mono fun q hq => (by omega : W0.heap.size ≤ q)).below hb4).setCell (p := ⟨w.heap.size, 5, none⟩) hne _).setCell (p := ⟨w.heap.size, 6, none⟩) hne _
  have s5' : Rd W5 (W0.heap.size ≤ ·) 1 A4 ns (bs sn) := by
   subst hW5
   have hz3 := hb3.size
   exact (((Rd.of_own o4).mono fun q hq => (by omega : W0.heap.size ≤ q)).setCell (p := ⟨w.heap.size, 5, none⟩) hne _).setCell (p := ⟨w.heap.size, 6, none⟩) hne _
  have hb5 : Below w.heap.size w W5 := by
   subst hW5
   have hz2 := HB2.out.1.size
   have hz3 := hb3.size
   exact (((HB2.out.1.drew.trans (hb3.mono (by omega))).trans (hb4.mono (by omega))).setCell (Nat.le_refl _) _).setCell (Nat.le_refl _) _
  have cp3 := own_cp o3
  have cp4 := own_cp o4
  rw [← hW5]
  have K := Lib.hid (And.intro r5 (And.intro d5 (And.intro c5' (And.intro s5' (And.intro hb5 (And.intro R2.out.2.2.1 (And.intro R2.out.2.2.2 (And.intro hz0 (And.intro cp3 cp4)))))))))
  obtain ⟨a0, a1, a2, a3, a4, a5, a6⟩ := x5.c7
  obtain ⟨q0, q1, q2, q3, q4, q5, q6⟩ := y5'.c7
  have p0 := y5'.f 0
  have p1 := y5'.f 1
  have p2 := y5'.f 2
  have p3 := y5'.f 3
  have p4 := y5'.f 4
  have p5 := y5'.f 5
  have p6 := y5'.f 6
  clear c0 c1 c2 c3 c4 c5 c6 f5 f6 z5 z6 k5 k6 y5 y6 g5 g6 hW5 x5 y5' r5 d5 c5' s5' hb5 hne h0z hz0 e2 hb3 hb4 o3 o4 X2 X3 X4 R2 HB2 cp3 cp4
  go_wp2_with fail
  refine bodyPost_ret (by simp [results, Tryz.results37, go_sem, q0, q1, q2, q3, q4, q5, q6]; rfl) rfl ?_
  obtain ⟨k1, k2, k3, k4, k5, k6, k7, k8, k9, k10⟩ := K.out
  have hne : ¬ W0.heap.size ≤ w.heap.size + 1 := by omega
  refine ⟨⟨tm, vt, b, t, A1, n, c1', L1, A3, nc, c3', cf, A4, ns, c4', sn⟩, rfl, ?_, ?_, ?_⟩
  ·refine Sv.At.mono (ok := (W0.heap.size ≤ ·)) ?_ fun q hq => (by omega : w.heap.size ≤ q)
   refine Sv.At.keep (W := W5) ⟨k1, k2, k3, k4, k7, k9, k10⟩ fun q hq _ => ?_
   have hq2 : W0.heap.size ≤ q := hq
   iterate 7 refine (Below.heap_setCell _ _ _ q (by show q ≠ w.heap.size + 1; omega)).trans ?_
   rfl
  ·unfold Sv.st
   dsimp only
   rw [k6]
  ·exact ((((((k5.setCell (by simp) _).setCell (by simp) _).setCell (by simp) _).setCell (by simp) _).setCell (by simp) _).setCell (by simp) _).setCell (by simp) _
theorem sown_sv (s : Sv) (w : World) {ok : Nat → Prop} (h : s.At w ok) (hf : s.Fit) (hm : lmay s.b s.t (s.L.map en) = true) :
  Calls Tryz.prog 37 #[s.val] w (StOwn w s.st) :=
 sown_any _ _ _ _ _ _ _ _ _ _ _ _ _ _ _ _ w h.l.any h.dat (h.wel hf) (fun y hy => (hf.w y hy).2) hm hf.z.1 h.k1.1 h.k1.2 h.cf.any hf.z.2.1 h.sn.any (by have := hf.z.2.2; omega)
theorem smay_sv (s : Sv) (w : World) {ok : Nat → Prop} (h : s.At w ok) (hf : s.Fit) (hev : EvW w w.heap.size) :
  Calls Tryz.prog 36 #[s.val] w (BoolPost w s.st.may) := by
 have := smay_any s.tm s.vt s.b s.t s.A s.n s.c s.L s.C s.nc s.cc s.cf s.S s.ns s.cs w h.l.any h.dat (h.wel hf) hf.z.1 h.cf.any hf.z.2.1 hev
 rw [smay_st _ _ _ _ _ _ s.sn] at this
 exact this
def coreC (s : Sv) (role leader commit round id span gone wait : Int) (votes : Value) (pm : Nat) (key : Int) (have_ : Value) : Array Value :=
 #[.int .i64 s.tm, .int .i64 s.vt, .int .i64 s.b, .int .i64 s.t, .slice s.A s.n s.c, .slice s.C s.nc s.cc, .slice s.S s.ns s.cs, .int .i64 role, .int .i64 leader, .int .i64 commit, .int .i64 round, .int .i64 id, .int .i64 span, .int .i64 gone, .int .i64 wait, votes, .map (some pm), .int .i64 key, have_]
def NewPost (W : World) (id span draw : Int) (s : St) (e : Ending) (w' : World) : Prop :=
 if s.may = true then ∃ (p : Nat) (s' : Sv), e = .returned (.tuple #[.pointer (some ⟨p + 1, 0, none⟩), .nilIface]) ∧ Bx w' (p + 1) (coreC s' 0 0 s.b 0 id span 0 (drw span draw) (.slice none 0 0) p 0 (.slice none 0 0)) ∧ s'.At w' (fun b => W.heap.size ≤ b ∧ b < p) ∧ s'.st = s ∧ W.heap.size ≤ p ∧ w'.heap[p]? = some (.map #[] 0) ∧ Below W.heap.size W w'
 else e = .returned (.tuple #[.pointer none, .iface 105 (.int .i64 1)]) ∧ Below W.heap.size W w'
set_option maxHeartbeats 3200000 in
theorem new_ok (id span draw : Int) (s : Sv) (w : World) {ok : Nat → Prop} (h : s.At w ok) (hf : s.Fit) (hev : EvW w w.heap.size) (h1 : 1 ≤ id) (h2 : id ≤ 64) (h3 : 2 ≤ span) (h4 : span ≤ 1000) :
  Calls Tryz.prog 12 #[.int .i64 id, .int .i64 span, s.val, .int .i64 draw] w (NewPost w id span draw s.st) := by
 obtain ⟨W0, hW0⟩ : ∃ W0, W0 = w.alloc (.cells s.cells 41) := ⟨_, rfl⟩
 have b0 : Bx W0 w.heap.size s.cells := by subst hW0; exact Bx.new _ _ _ rfl
 have hbe : Below w.heap.size w W0 := by subst hW0; exact (Below.refl _ _).alloc (Nat.le_refl _) _
 have hz0 : W0.heap.size = w.heap.size + 1 := by subst hW0; simp
 have hmy := smay_sv s W0 (h.below hbe) hf (hev.below hbe (Nat.le_refl _) |>.mono (by omega))
 have how := fun W (hb : Below W0.heap.size W0 W) (hm : lmay s.b s.t (s.L.map en) = true) => sown_sv s W ((h.below hbe).below hb) hf hm
 have hlm : s.st.may = true → lmay s.b s.t (s.L.map en) = true := fun hm => (St.may_iff hm).1
 obtain ⟨q, hq⟩ : ∃ q, s.st.may = q := ⟨_, rfl⟩
 rw [hq] at hmy hlm
 obtain ⟨c0, c1, c2, c3, c4, c5, c6⟩ := b0.c7
 have hdr := fun p cs W (h : Bx W p cs) (hc : cs[12]? = some (.int .i64 span)) (hz : 14 < cs.size) => draws_any p cs span draw W h hc hz h3 h4
 have hmm := @run_makeMap Tryz.prog
 have g1 : decide (id < 1) = false := decide_eq_false (by omega)
 have g2 : decide (64 < id) = false := decide_eq_false (by omega)
 have g3 : decide (span < 2) = false := decide_eq_false (by omega)
 have g4 : decide (1000 < span) = false := decide_eq_false (by omega)
 have HW := Lib.hid hW0
 have B := Lib.hid (And.intro b0 (And.intro hbe hz0))
 have Hmy := Lib.hid hmy
 have How := Lib.hid how
 have Hlm := Lib.hid hlm
 have Hq := Lib.hid hq
 have Hdr := Lib.hid hdr
 clear hW0 b0 hbe hz0 hmy how hlm hq hdr h hf hev
 unfold Sv.val stA
 go_enter Tryz.func12, Tryz.ntmps12
 go_upto_region 1 with (fail)
 have HW' := HW.out
 unfold Sv.cells at HW'
 rw [← HW']
 clear HW'
 go_wp2_with fail
 refine Hmy.out.mono ?_
 rintro e w1 ⟨rfl, hb1⟩
 clear c0 c1 c2 c3 c4 c5 c6
 obtain ⟨c0, c1, c2, c3, c4, c5, c6⟩ := (B.out.1.below hb1).c7
 cases q
 ·go_wp2_with fail
  go_ret2
  unfold NewPost
  rw [if_neg (by rw [Hq.out]; decide)]
  exact ⟨rfl, B.out.2.1.trans (hb1.mono B.out.2.1.size)⟩
 ·go_wp2_with fail
  refine (How.out w1 hb1 (Hlm.out (by trivial))).mono ?_
  rintro e w2 ⟨s', rfl, a2, e2, hb2⟩
  have A2 := Lib.hid (And.intro a2 (And.intro e2 (And.intro hb1 hb2)))
  clear c0 c1 c2 c3 c4 c5 c6
  obtain ⟨c0, c1, c2, c3, c4, c5, c6⟩ := ((B.out.1.below hb1).below hb2).c7
  clear a2 e2 hb1 hb2
  unfold Sv.val stA
  go_upto_region 4 with (fail)
  obtain ⟨W3, hW3⟩ : ∃ W3, W3 = (w2.alloc (.map #[] 0)).alloc (.cells (coreC s' 0 0 0 0 id span 0 0 (.slice none 0 0) w2.heap.size 0 (.slice none 0 0)) 109) := ⟨_, rfl⟩
  have x3 : Bx W3 (w2.heap.size + 1) (coreC s' 0 0 0 0 id span 0 0 (.slice none 0 0) w2.heap.size 0 (.slice none 0 0)) := by subst hW3; exact Bx.new _ _ _ (by simp)
  have hb3 : Below w2.heap.size w2 W3 := by subst hW3; exact ((Below.refl _ _).alloc (Nat.le_refl _) _).alloc (by simp) _
  have hm3 : W3.heap[w2.heap.size]? = some (.map #[] 0) := by
   subst hW3
   exact (Below.heap_alloc _ _ _ (by simp)).trans (heap_alloc_new _ _)
  have a3 := A2.out.1.lt.below hb3
  have y3 := ((B.out.1.below A2.out.2.2.1).below A2.out.2.2.2).below hb3
  clear c0 c1 c2 c3 c4 c5 c6
  obtain ⟨c0, c1, c2, c3, c4, c5, c6⟩ := y3.c7
  have k9 : W3.cell? ⟨w2.heap.size + 1, 9, none⟩ = some (.int .i64 0) := x3.c 9
  have f9 : W3.frozen? ⟨w2.heap.size + 1, 9, none⟩ = false := x3.f 9
  have HW3 := Lib.hid hW3
  have X3 := Lib.hid (And.intro x3 (And.intro hb3 (And.intro hm3 a3)))
  clear x3 hb3 hm3 a3 y3 hW3
  have HW3' := HW3.out
  unfold coreC at HW3'
  rw [← HW3']
  clear HW3'
  go_wp2_with fail
  refine (Hdr.out _ (coreC s' 0 0 s.b 0 id span 0 0 (.slice none 0 0) w2.heap.size 0 (.slice none 0 0)) _ (X3.out.1.set 9 (.int .i64 s.b)) rfl (by unfold coreC; simp)).mono ?_
  rintro e w4 ⟨rfl, x4, g4'⟩
  have X4 := Lib.hid (And.intro x4 g4')
  clear x4 g4'
  go_wp2_with fail
  go_ret2
  unfold NewPost
  rw [if_pos Hq.out]
  have s1 := B.out.2.1.size
  have s2 := A2.out.2.2.1.size
  have s3 := A2.out.2.2.2.size
  have s4 := X3.out.2.1.size
  have hle : w.heap.size ≤ w2.heap.size := by omega
  have hk : ∀ q, q < W3.heap.size → q ≠ w2.heap.size + 1 → w4.heap[q]? = W3.heap[q]? := fun q h5 h6 => (X4.out.2.block q (by simpa [World.setCell] using h5) (fun e => h6 (by injection e))).trans (Below.heap_setCell _ _ _ q h6)
  have hl1 := X3.out.1.lt
  refine ⟨w2.heap.size, s', rfl, X4.out.1, ?_, A2.out.2.1, hle, (hk _ (by omega) (by omega)).trans X3.out.2.2.1, ?_⟩
  ·refine (X3.out.2.2.2.keep fun q hq hl => hk q hl (by have := hq.2; omega)).mono fun q hq => ⟨by have := hq.1; omega, hq.2⟩
  ·have e1 : Below w.heap.size w w2 := (B.out.2.1.trans (A2.out.2.2.1.mono (by omega))).trans (A2.out.2.2.2.mono (by omega))
   have e2 : Below w.heap.size w W3 := e1.trans (X3.out.2.1.mono hle)
   refine (e2.setCell (p := ⟨w2.heap.size + 1, 9, none⟩) (by show w.heap.size ≤ w2.heap.size + 1; omega) (.int .i64 s.b)).grown X4.out.2 ?_ ?_
   ·simp [World.setCell]; omega
   ·intro q hq
    injection hq with hq
    omega
structure Mr where
 kind : Int
 fr : Int
 dst : Int
 term : Int
 ix : Int
 lt : Int
 cm : Int
 rd : Int
 ok : Bool
 off : Int
 D : Option Addr
 nd : Nat
 cd : Nat
 data : List UInt8
 E : Option Addr
 ne : Nat
 ce : Nat
 L : List Er
def mcell (x : Mr) : List Value := [.int .i64 x.kind, .int .i64 x.fr, .int .i64 x.dst, .int .i64 x.term, .int .i64 x.ix, .int .i64 x.lt, .int .i64 x.cm, .int .i64 x.rd, .bool x.ok, .int .i64 x.off, .slice x.D x.nd x.cd, .slice x.E x.ne x.ce]
def Mr.val (x : Mr) : Value := .agg #[.int .i64 x.kind, .int .i64 x.fr, .int .i64 x.dst, .int .i64 x.term, .int .i64 x.ix, .int .i64 x.lt, .int .i64 x.cm, .int .i64 x.rd, .bool x.ok, .int .i64 x.off, .slice x.D x.nd x.cd, .slice x.E x.ne x.ce]
def Mr.cells (x : Mr) : Array Value := #[.int .i64 x.kind, .int .i64 x.fr, .int .i64 x.dst, .int .i64 x.term, .int .i64 x.ix, .int .i64 x.lt, .int .i64 x.cm, .int .i64 x.rd, .bool x.ok, .int .i64 x.off, .slice x.D x.nd x.cd, .slice x.E x.ne x.ce]
theorem mcell_len (x : Mr) : (mcell x).length = 12 := rfl
theorem mcell_one (l : List Mr) : ∀ u ∈ flat mcell l, u.oneCell' = true := by
 intro u hu
 unfold flat at hu
 obtain ⟨x, _, hx⟩ := List.mem_flatMap.1 hu
 unfold mcell at hx
 simp only [List.mem_cons, List.not_mem_nil, or_false] at hx
 rcases hx with rfl | rfl | rfl | rfl | rfl | rfl | rfl | rfl | rfl | rfl | rfl | rfl <;> rfl
def Mr.ms (x : Mr) : Ms := ⟨x.kind, x.fr, x.dst, x.term, x.ix, x.lt, x.cm, x.rd, x.ok, x.off, x.data, x.L.map en⟩
structure Mr.At (x : Mr) (W : World) (ok : Nat → Prop) : Prop where
 d : Rd W ok 1 x.D x.nd (bs x.data)
 dk : x.nd ≤ x.cd ∧ x.cd ≤ maxLen
 e : Rd W ok 4 x.E x.ne (flat ecell x.L)
 ed : ∀ y ∈ x.L, Rd W ok 1 y.A y.n (bs y.d) ∧ y.n ≤ y.m ∧ y.m ≤ maxLen
 ek : x.ne ≤ x.ce ∧ x.ce ≤ maxLen
structure Mr.Fit (x : Mr) : Prop where
 i : I64 x.kind ∧ I64 x.fr ∧ I64 x.dst ∧ I64 x.term ∧ I64 x.ix ∧ I64 x.lt ∧ I64 x.cm ∧ I64 x.rd ∧ I64 x.off
 w : ∀ y ∈ x.L, W64 y ∧ y.n ≤ 1000000
 z : x.nd ≤ 1000000 ∧ x.ne ≤ 1000000
section
variable {x : Mr} {W W' : World} {ok ok' : Nat → Prop}
theorem Mr.At.mono (h : x.At W ok) (hk : ∀ b, ok b → ok' b) : x.At W ok' := ⟨h.d.mono hk, h.dk, h.e.mono hk, fun y hy => ⟨(h.ed y hy).1.mono hk, (h.ed y hy).2⟩, h.ek⟩
theorem Mr.At.keep (h : x.At W ok) (hk : ∀ b, ok b → b < W.heap.size → W'.heap[b]? = W.heap[b]?) : x.At W' ok := ⟨h.d.keep hk, h.dk, h.e.keep hk, fun y hy => ⟨(h.ed y hy).1.keep hk, (h.ed y hy).2⟩, h.ek⟩
theorem Mr.At.below (h : x.At W ok) (hb : Below W.heap.size W W') : x.At W' ok := h.keep fun b _ hl => hb.block b hl
theorem Mr.At.lt (h : x.At W ok) : x.At W fun b => ok b ∧ b < W.heap.size := ⟨h.d.lt (by omega), h.dk, h.e.lt (by omega), fun y hy => ⟨(h.ed y hy).1.lt (by omega), (h.ed y hy).2⟩, h.ek⟩
theorem Mr.At.dat (h : x.At W ok) : Dat W x.L := fun y hy => ⟨(h.ed y hy).1.any, (h.ed y hy).2⟩
end
structure Mb where
 s : Sv
 V : Option Addr
 nv : Nat
 cv : Nat
 q : Nat
 H : Option Addr
 nh : Nat
 ch : Nat
def Mb.cells (m : Mb) (C : Cr) : Array Value := coreC m.s C.role C.leader C.commit C.round C.id C.span C.gone C.wait (.slice m.V m.nv m.cv) m.q C.key (.slice m.H m.nh m.ch)
structure CX (fb : Nat) (W : World) (p : Nat) (V U : Nat → Prop) (C : Cr) (m : Mb) : Prop where
 bx : Bx W p (m.cells C)
 pm : Pm W m.q C.peers
 vp : V p
 vq : V m.q
 qp : m.q ≠ p
 vv : ∀ g, m.V.map (·.block) = some g → V g ∧ g ≠ p ∧ g ≠ m.q
 vu : ∀ b, V b → U b
 vf : ∀ b, V b → fb ≤ b
 ul : ∀ b, U b → b < W.heap.size
 vt : W.ownsRow 0 3 1 (.slice m.V m.nv m.cv) m.nv (ii C.votes)
 at_ : m.s.At W (fun b => ¬ U b)
 st : m.s.st = C.s
 hv : Rd W (fun b => ¬ U b) 1 m.H m.nh (bs C.hv)
 hk : m.nh ≤ m.ch ∧ m.ch ≤ maxLen
end Go.Proofs.YtmhaahcbmdhinaaGreatDoor
namespace Go.Proofs.YtmhaahcbmdhinaaGreatDoor
open Go.RowKit
set_option linter.unusedVariables false
set_option linter.unusedSimpArgs false
structure Kept (U : Nat → Prop) (W W' : World) : Prop where
 os : W'.os = W.os
 tape : W'.tape = W.tape
 output : W'.output = W.output
 size : W.heap.size ≤ W'.heap.size
 block : ∀ i, i < W.heap.size → ¬ U i → W'.heap[i]? = W.heap[i]?
section
variable {U V : Nat → Prop} {W W' W2 : World}
theorem Kept.refl (U : Nat → Prop) (W : World) : Kept U W W := ⟨rfl, rfl, rfl, Nat.le_refl _, fun _ _ _ => rfl⟩
theorem Kept.trans (h : Kept U W W') (h2 : Kept V W' W2) (hv : ∀ b, b < W.heap.size → V b → U b) : Kept U W W2 :=
 ⟨h2.os.trans h.os, h2.tape.trans h.tape, h2.output.trans h.output, Nat.le_trans h.size h2.size, fun i hi hu => (h2.block i (Nat.lt_of_lt_of_le hi h.size) (fun hv' => hu (hv i hi hv'))).trans (h.block i hi hu)⟩
theorem Kept.of_below {B : Nat} (h : Below B W W') (hB : ∀ b, b < W.heap.size → B ≤ b → U b) : Kept U W W' :=
 ⟨h.os, h.tape, h.output, h.size, fun i hi hu => h.block i (Nat.lt_of_not_le fun hb => hu (hB i hi hb))⟩
theorem Kept.of_new (h : Below W.heap.size W W') : Kept U W W' := Kept.of_below h fun b h1 h2 => by omega
theorem Kept.below {B : Nat} (h : Kept U W W') (hB : ∀ b, U b → B ≤ b) (hz : B ≤ W.heap.size) : Below B W W' :=
 ⟨h.os, h.tape, h.output, h.size, fun i hi => h.block i (Nat.lt_of_lt_of_le hi hz) fun hu => by have := hB i hu; omega⟩
theorem Kept.drew (h : Kept U W W') : Kept U W W'.drew := ⟨h.os, h.tape, h.output, h.size, h.block⟩
theorem Kept.alloc (h : Kept U W W') (o : Obj) : Kept U W (W'.alloc o) := h.trans (V := U) (Kept.of_new ((Below.refl _ _).alloc (Nat.le_refl _) o)) (fun _ _ h => h)
theorem Kept.set (h : Kept U W W') {p : Addr} (hp : U p.block) (v : Value) : Kept U W (W'.setCell p v) :=
 ⟨h.os, h.tape, h.output, by simpa [World.setCell] using h.size, fun i hi hu => (Below.heap_setCell W' p v i (fun e => hu (e ▸ hp))).trans (h.block i hi hu)⟩
theorem Kept.grown {row : Option Nat} (h : Kept U W W') (hg : W'.grownBy W2 row) (hr : ∀ b, row = some b → U b) : Kept U W W2 :=
 ⟨hg.os.trans h.os, hg.tape.trans h.tape, hg.output.trans h.output, Nat.le_trans h.size hg.size, fun i hi hu => (hg.block i (Nat.lt_of_lt_of_le hi h.size) (fun e => hu (hr i e.symm))).trans (h.block i hi hu)⟩
theorem Kept.bx {g : Nat} {cs : Array Value} (h : Kept U W W') (hb : Bx W g cs) (hg : ¬ U g) : Bx W' g cs := hb.keep (h.block g hb.lt hg)
theorem Kept.rd {ok : Nat → Prop} {size n : Nat} {A : Option Addr} {xs : List Value} (h : Kept U W W') (hr : Rd W ok size A n xs) (hok : ∀ b, ok b → ¬ U b) : Rd W' ok size A n xs :=
 hr.keep fun b hb hlt => h.block b hlt (hok b hb)
theorem Kept.own {base : Nat} {e : TypeId} {size n m c : Nat} {A : Option Addr} {xs : List Value} (h : Kept U W W') (ho : W.ownsRow base e size (.slice A n c) m xs) (hA : ∀ b, A.map (·.block) = some b → ¬ U b) : W'.ownsRow base e size (.slice A n c) m xs := by
 refine ⟨ho.1, ?_⟩
 rcases ho.2 with h1 | ⟨g, cap, cur, h1, h2, h3, h4⟩
 ·exact .inl h1
 ·refine .inr ⟨g, cap, cur, h1, h2, ?_, h4⟩
  have hgl : g < W.heap.size := (Array.getElem?_eq_some_iff.1 h3).1
  rw [h.block g hgl (hA g (by injection h1 with h1; rw [h1]; rfl)), h3]
end
section
variable {fb p : Nat} {W W' W2 : World} {V U V' U' V2 U2 : Nat → Prop} {C C' C2 : Cr} {m m' m2 : Mb}
theorem CX.hold (h : CX fb W p V U C m) (hk : ∀ b, b < W.heap.size → V b ∨ ¬ U b → W'.heap[b]? = W.heap[b]?) (hz : W.heap.size ≤ W'.heap.size) : CX fb W' p V U C m := by
 have hv : ∀ b, V b → W'.heap[b]? = W.heap[b]? := fun b hb => hk b (h.ul b (h.vu b hb)) (.inl hb)
 refine ⟨h.bx.keep (hv p h.vp), h.pm.keep (hv _ h.vq), h.vp, h.vq, h.qp, h.vv, h.vu, h.vf, fun b hb => Nat.lt_of_lt_of_le (h.ul b hb) hz, ?_, h.at_.keep fun b hb hl => hk b hl (.inr hb), h.st, h.hv.keep fun b hb hl => hk b hl (.inr hb), h.hk⟩
 refine ⟨h.vt.1, ?_⟩
 rcases h.vt.2 with h1 | ⟨g, cap, cur, h1, h2, h3, h4⟩
 ·exact .inl h1
 ·refine .inr ⟨g, cap, cur, h1, h2, ?_, h4⟩
  rw [hv g (h.vv g (by injection h1 with h1; rw [h1]; rfl)).1, h3]
theorem CX.below (h : CX fb W p V U C m) (hb : Below W.heap.size W W') : CX fb W' p V U C m := h.hold (fun b hl _ => hb.block b hl) hb.size
theorem CX.drew (h : CX fb W p V U C m) : CX fb W.drew p V U C m := h.hold (fun _ _ _ => rfl) (Nat.le_refl _)
theorem CX.wide (h : CX fb W p V U C m) (hu : ∀ b, U b → U' b) (hn : ∀ b, b < W.heap.size → U' b → U b) (hk : ∀ b, b < W.heap.size → V b ∨ ¬ U b → W'.heap[b]? = W.heap[b]?) (hz : W.heap.size ≤ W'.heap.size) (hl : ∀ b, U' b → b < W'.heap.size) : CX fb W' p V U' C m := by
 have h1 := h.hold hk hz
 have hlt := h.at_.lt
 have hh := h.hv.lt (by omega)
 exact ⟨h1.bx, h1.pm, h1.vp, h1.vq, h1.qp, h1.vv, fun b hb => hu b (h1.vu b hb), h1.vf, hl, h1.vt, (hlt.keep fun b hb hl => hk b hl (.inr hb.1)).mono fun b hb h2 => hb.1 (hn b hb.2 h2), h1.st,
  (hh.keep fun b hb hl => hk b hl (.inr hb.1)).mono fun b hb h2 => hb.1 (hn b hb.2 h2), h1.hk⟩
structure CTo (fb : Nat) (W : World) (p : Nat) (V U : Nat → Prop) (C' : Cr) (W' : World) (V' U' : Nat → Prop) (m' : Mb) : Prop where
 cx : CX fb W' p V' U' C' m'
 vs : ∀ b, V' b → V b ∨ W.heap.size ≤ b
 us : ∀ b, U b → U' b
 un : ∀ b, U' b → U b ∨ W.heap.size ≤ b
 kept : Kept V W W'
theorem CTo.refl (h : CX fb W p V U C m) : CTo fb W p V U C W V U m := ⟨h, fun _ h => .inl h, fun _ h => h, fun _ h => .inl h, Kept.refl _ _⟩
theorem CTo.trans (h : CTo fb W p V U C W' V' U' m) (h2 : CTo fb W' p V' U' C2 W2 V2 U2 m2) : CTo fb W p V U C2 W2 V2 U2 m2 :=
 ⟨h2.cx, fun b hb => (h2.vs b hb).elim (h.vs b) fun h3 => .inr (Nat.le_trans h.kept.size h3), fun b hb => h2.us b (h.us b hb),
  fun b hb => (h2.un b hb).elim (h.un b) fun h3 => .inr (Nat.le_trans h.kept.size h3), h.kept.trans h2.kept fun b hb hv => (h.vs b hv).elim id fun h3 => by omega⟩
theorem CTo.below (h : CTo fb W p V U C W' V' U' m) (hb : Below W'.heap.size W' W2) : CTo fb W p V U C W2 V' U' m :=
 ⟨h.cx.below hb, h.vs, h.us, h.un, h.kept.trans (V := fun _ => False) (Kept.of_new hb) fun _ _ h => h.elim⟩
theorem CTo.up (hb : Below W.heap.size W W') (h : CTo fb W' p V U C W2 V' U' m) : CTo fb W p V U C W2 V' U' m :=
 ⟨h.cx, fun b hb' => (h.vs b hb').elim .inl fun h3 => .inr (Nat.le_trans hb.size h3), h.us, fun b hb' => (h.un b hb').elim .inl fun h3 => .inr (Nat.le_trans hb.size h3), (Kept.of_new hb).trans h.kept fun _ _ h => h⟩
theorem CTo.rd {size n : Nat} {A : Option Addr} {xs : List Value} (h : CTo fb W p V U C W' V' U' m) (hu : ∀ b, V b → U b) (hr : Rd W (fun b => ¬ U b) size A n xs) (hs : 0 < size) : Rd W' (fun b => ¬ U' b) size A n xs :=
 (h.kept.rd (hr.lt hs) fun b hb hv => hb.1 (hu b hv)).mono fun b hb h2 => (h.un b h2).elim hb.1 fun h3 => by have := hb.2; omega
theorem CTo.msg {x : Mr} (h : CTo fb W p V U C W' V' U' m) (hu : ∀ b, V b → U b) (hx : x.At W (fun b => ¬ U b)) : x.At W' (fun b => ¬ U' b) :=
 ⟨h.rd hu hx.d (by omega), hx.dk, h.rd hu hx.e (by omega), fun y hy => ⟨h.rd hu (hx.ed y hy).1 (by omega), (hx.ed y hy).2⟩, hx.ek⟩
end
end Go.Proofs.YtmhaahcbmdhinaaGreatDoor
namespace Go.Proofs.YtmhaahcbmdhinaaGreatDoor
open Go.RowKit
set_option maxRecDepth 100000
set_option linter.unusedVariables false
set_option linter.unusedSimpArgs false
section
variable {fb p : Nat} {w : World} {V U : Nat → Prop} {C : Cr} {m : Mb}
theorem CX.s_eq (h : CX fb w p V U C m) : m.s.tm = C.s.tm ∧ m.s.vt = C.s.vt ∧ m.s.b = C.s.b ∧ m.s.t = C.s.t ∧ m.s.L.map en = C.s.l ∧ m.s.cf = C.s.cf ∧ m.s.sn = C.s.sn := by
 rw [← h.st]
 exact ⟨rfl, rfl, rfl, rfl, rfl, rfl, rfl⟩
theorem CX.lm (h : CX fb w p V U C m) (hm : C.s.may = true) : lmay m.s.b m.s.t (m.s.L.map en) = true := by
 have := (St.may_iff hm).1
 rw [← h.st] at this
 exact this
end
set_option maxHeartbeats 1600000 in
theorem clast_any {fb p : Nat} {w : World} {V U : Nat → Prop} {C : Cr} {m : Mb} (h : CX fb w p V U C m) (hf : m.s.Fit) (hm : C.s.may = true) :
  Calls Tryz.prog 55 #[.pointer (some ⟨p, 0, none⟩)] w (fun e w' => e = .returned (.int .i64 C.last) ∧ Below w.heap.size w w') := by
 have hl := LastA_any m.s.b m.s.t m.s.A m.s.n m.s.c m.s.L w h.at_.l (h.at_.wel hf) hf.z.1
 rw [h.lm hm, if_pos rfl, if_pos rfl] at hl
 have c2 : w.cell? ⟨p, 2, none⟩ = some (.int .i64 m.s.b) := h.bx.c 2
 have c3 : w.cell? ⟨p, 3, none⟩ = some (.int .i64 m.s.t) := h.bx.c 3
 have c4 : w.cell? ⟨p, 4, none⟩ = some (.slice m.s.A m.s.n m.s.c) := h.bx.c 4
 have e1 : lstA m.s.b (m.s.L.map en) = C.last := by
  obtain ⟨_, _, k3, _, k5, _⟩ := h.s_eq
  rw [k3, k5]
  rfl
 rw [e1] at hl
 have Hl := Lib.hid hl
 clear h hf hm hl e1
 go_enter Tryz.func55, Tryz.ntmps55
 go_wp2_with fail
 refine Hl.out.mono ?_
 rintro e w1 ⟨rfl, hb1⟩
 go_wp2_with fail
 go_ret
 exact ⟨rfl, hb1⟩
end Go.Proofs.YtmhaahcbmdhinaaGreatDoor
