/- Walk: (*stable.Keeper).lay, where tape 0 counts. (Printed by mklay.py.) -/
import Derived.Test.YtlecglmiigdjlaaGreatDoorZb22
namespace Go.Proofs.YtlecglmiigdjlaaGreatDoor
open Go.RowKit
set_option maxRecDepth 100000
set_option linter.unusedVariables false
set_option linter.unusedSimpArgs false
variable {fb : Nat}
set_option maxHeartbeats 6400000 in
theorem lay_false {L : Nat → Prop} {k g t0 t1 : Nat} {K : Kp} {z : Sv} {D : Dk} {sz : Nat} (w : World) (h : KX fb w L k g t0 t1 K z D sz) (hon : K.on = false) (s : Sv) (hs : s.At w (fun b => ¬ L b ∧ b ≠ t0 ∧ b ≠ t1 ∧ b ≠ k)) (hf : s.Fit) (hm : s.st.may = true) (htab : TabW w) (hn : K.n ≤ 1000000000) (hq : D.q.length ≤ 900000) :
    Calls Tryz.prog 29 #[.pointer (some ⟨k, 0, none⟩), s.val] w (LayP fb w L k g t0 t1 (K.lay D s.st) sz) := by
  obtain ⟨W0, hW0⟩ : ∃ W0, W0 = w.alloc (.cells s.cells 35) := ⟨_, rfl⟩
  have b0 : Bx W0 w.heap.size s.cells := by subst hW0; exact Bx.new _ _ _ rfl
  have hbe : Below w.heap.size w W0 := by subst hW0; exact (Below.refl _ _).alloc (Nat.le_refl _) _
  have hz0 : W0.heap.size = w.heap.size + 1 := by subst hW0; simp
  have h0 := h.below hbe
  have a0 := hs.below hbe
  have hfr : ¬ L w.heap.size ∧ w.heap.size ≠ t0 ∧ w.heap.size ≠ t1 ∧ w.heap.size ≠ k := ⟨fun hl => by have := h.dx.lt _ hl; omega, fun e => by have := h.b0.lt; omega, fun e => by have := h.b1.lt; omega, fun e => by have := h.kb.lt; omega⟩
  obtain ⟨b, hb⟩ : ∃ b, stL ((K.n : Nat) + 1 : Int) s.st = b := ⟨_, rfl⟩
  have henc := kenc_any ((K.n : Nat) + 1 : Int) s W0.drew a0.drew hf hm ((htab.below hbe (Nat.le_refl _)).below (Below.refl _ _).drew (Nat.le_refl _))
  rw [hb] at henc
  have hown := fun W (h : s.At W (fun b => ¬ L b ∧ b ≠ t0 ∧ b ≠ t1 ∧ b ≠ k)) => kown_sv s W h hf (St.may_iff hm).1
  have wn : IntKind.i64.wrap (((K.n : Nat) : Int) + 1) = (K.n : Nat) + 1 := by rw [IntKind.wrap_i64]; omega
  have F : ∀ W, Below W0.heap.size W0 W → W.cell? ⟨k, 5, none⟩ = some (.int .i64 (K.n : Nat)) ∧ W.cell? ⟨w.heap.size, 0, none⟩ = some (.int .i64 s.tm) ∧ W.cell? ⟨w.heap.size, 1, none⟩ = some (.int .i64 s.vt) ∧ W.cell? ⟨w.heap.size, 2, none⟩ = some (.int .i64 s.b) ∧ W.cell? ⟨w.heap.size, 3, none⟩ = some (.int .i64 s.t) ∧ W.cell? ⟨w.heap.size, 4, none⟩ = some (.slice s.A s.n s.c) ∧ W.cell? ⟨w.heap.size, 5, none⟩ = some (.slice s.C s.nc s.cc) ∧ W.cell? ⟨w.heap.size, 6, none⟩ = some (.slice s.S s.ns s.cs) := fun W hb => ⟨(h0.below hb).c.2.2.2.2.2.1, Sv.c7 (b0.below hb)⟩
  have FF := Lib.hid F
  have HW := Lib.hid hW0
  have B := Lib.hid (And.intro b0 (And.intro hbe (And.intro hz0 (And.intro hfr (And.intro a0 h0)))))
  have Henc := Lib.hid henc
  have Hown := Lib.hid hown
  have HB := Lib.hid hb
  have HQ0 := Lib.hid hq
  have Hf := Lib.hid hf
  have Hs := Lib.hid hs
  clear F hW0 b0 hbe hz0 hfr a0 h0 henc hown hb hq h hs hf hm htab
  unfold Sv.val stA at *
  go_enter Tryz.func29, Tryz.ntmps29
  go_upto_region 1 with (fail)
  have HW' := HW.out
  unfold Sv.cells at HW'
  rw [← HW']
  clear HW'
  refine wp_region_S 7 (fun W => Below W0.heap.size W0 W) (.take 0 (.take 1 (.take 2 (.take 3 (.take 4 (.take 5 (.one 6 (.one 7 (.nil))))))))) (by kernel_rfl) (Below.refl _ _).drew (fun _ _ _ _ h => h) (fun hS => ?_)
  repeat (first
    | (refine wpS_take (v := ?_) rfl rfl (by rfl) ?_ ?_; rotate_left; (intro W hW; have hf := FF.out W hW; go_split_ands; go_simp; try with_reducible rfl); try simp only [Act.put, List.setIfInBounds_toArray, List.set_cons_zero, List.set_cons_succ])
    | (refine wpS_skip rfl rfl (by rfl) ?_; try simp only [Act.put, List.setIfInBounds_toArray, List.set_cons_zero, List.set_cons_succ]))
  refine wpS_one rfl (by rfl) (fun K hK => ?_)
  go_simp
  go_at_call 68
  refine (Henc.out).mono ?_
  rintro e w1 ⟨Ab, nb, cb, rfl, ob, hb1⟩
  have hb1' : Below W0.heap.size W0 w1 := (Below.refl _ _).drew.trans hb1
  have rb := Rd.of_own ob
  have hcb := own_cp ob
  have hlb : b.length = nb := rb.blen
  have R1 := Lib.hid (And.intro rb (And.intro hcb (And.intro hlb hb1')))
  have hS1 := hb1'
  clear rb hcb hlb hb1 hb1' ob
  refine hK (fun W => Below W0.heap.size W0 W) _ _ (fun _ h => h) hS1 ?_
  clear hK K
  try simp only [Act.put, List.setIfInBounds_toArray, List.set_cons_zero, List.set_cons_succ]
  refine wpS_last rfl (by rfl) (fun K hK => ?_)
  go_simp
  refine hK _ _ ?_
  clear hK K
  try simp only [Act.put, List.setIfInBounds_toArray, List.set_cons_zero, List.set_cons_succ]
  refine wpS_nil ?_
  clear hS1 hS
  have x1 := B.out.2.2.2.2.2.below R1.out.2.2.2
  obtain ⟨c0, c1, c2, c3, c4, c5, c13⟩ := x1.c
  replace c4 : w1.cell? ⟨k, 4, none⟩ = some (.int .i64 0) := by rw [c4, hon]; rfl
  have X1 := Lib.hid x1
  clear x1
  have hlen := R1.out.2.2.1
  have hmx := R1.out.2.1
  by_cases hroom : (nb : Int) ≤ K.t0.room
  · have hrd : decide ((nb : Int) ≤ K.t0.room) = true := decide_eq_true hroom
    go_wp2_with fail
    refine (room_any w1 X1.out.tx0).mono ?_
    rintro e w2 ⟨rfl, r, rfl⟩
    have hb2 : Below w1.heap.size w1 (w1.drewN r) := below_drewN (Below.refl _ _) r
    have hb02 := R1.out.2.2.2.trans (hb2.mono R1.out.2.2.2.size)
    have xa := And.intro (X1.out.below hb2) (And.intro (fun b (h : L b) => (Or.inl h : L b ∨ W0.heap.size ≤ b)) (Kept.of_new (U := fun b => L b ∨ b = t0 ∨ b = t1 ∨ b = k) hb02))
    have XA := Lib.hid xa
    have rbx := And.intro ((R1.out.1.any).below hb2) (by omega : nb ≤ maxLen)
    have RB := Lib.hid rbx
    have hq' : D.q.length ≤ 999000 := by have := HQ0.out; omega
    have HQ := Lib.hid hq'
    have hPe : K.lay D s.st = K.laid false (K.t0.append D b) s.st := by
      unfold Kp.lay
      rw [HB.out, hon, if_pos (by show ((b.length : Nat) : Int) ≤ K.t0.room; rw [hlen]; exact hroom)]
      rfl
    have HPe := Lib.hid hPe
    clear hb2 hb02 xa rbx hq' hPe hroom
    obtain ⟨rr, hrr⟩ : ∃ rr, (K).t0.append D b = rr := ⟨_, rfl⟩
    have hap := append_any Ab nb cb b (w1.drewN r) XA.out.1.tx0 RB.out.1 RB.out.2 HQ.out
    rw [hrr] at hap
    have Hap := Lib.hid hap
    have Hrr := Lib.hid hrr
    clear hap hrr
    go_wp2_with fail
    refine Hap.out.mono ?_
    rintro e w3 ⟨rfl, haft⟩
    have k3 := KAft.s0 XA.out.1 XA.out.2.1 XA.out.2.2 haft
    have k4 := k3.dead_ rr.2.2
    obtain ⟨L3, x3, -, -⟩ := k3
    have m13 := x3.kb.c 13
    have f13 := x3.kb.f 13
    replace m13 : w3.cell? ⟨k, 13, none⟩ = some (errD (K).dead) := m13
    obtain ⟨W4, hW4⟩ : ∃ W4, W4 = w3.setCell ⟨k, 13, none⟩ (errD rr.2.2) := ⟨_, rfl⟩
    rw [← hW4] at k4
    have HW4 := Lib.hid hW4
    have K4 := Lib.hid k4
    clear haft x3 hW4
    obtain ⟨L4, x4, l4, kp4⟩ := k4
    obtain ⟨c0, c1, c2, c3, c4, c5, c13⟩ := x4.c
    by_cases hr0 : rr.2.2 = 0
    · have hd0 : errD rr.2.2 = .nilIface := by rw [hr0]; rfl
      rw [hd0] at HW4
      replace c13 : W4.cell? ⟨k, 13, none⟩ = some .nilIface := by rw [c13]; exact congrArg some hd0
      have b4 := K4.out.bx B.out.1 B.out.2.2.2.1
      obtain ⟨i0, i1, i2, i3, i4, i5, i6⟩ := Sv.c7 b4
      have a4 := (K4.out.arg B.out.2.2.2.2.1 (fun b hb => hb))
      have how := fun W (hb : Below W4.heap.size W4 W) => Hown.out W (a4.below hb)
      have How := Lib.hid how
      have hP : K.lay D s.st = ({ ({ (K) with t0 := rr.1, dead := rr.2.2 } : Kp) with n := K.n + 1, now := s.st, on := false }, rr.2.1, 0) := by
        rw [HPe.out, Hrr.out]
        unfold Kp.laid
        rw [if_pos hr0, hr0]
        rfl
      have HPP := Lib.hid hP
      have X4 := Lib.hid (And.intro x4 b4)
      replace c5 : W4.cell? ⟨k, 5, none⟩ = some (.int .i64 (K.n : Nat)) := c5
      have fk : ∀ i, W4.frozen? ⟨k, i, none⟩ = false := x4.kb.f
      clear x4 b4 a4 how hP l4 kp4 hr0
      rw [hd0]
      go_upto_region 13 with (fail)
      rw [← HW4.out]
      go_region_law (first
        | (go_simp; go_at_call 30; refine (How.out _ (Below.refl _ _).drew).mono ?_; rintro e w5 ⟨z', rfl, a5, e5, hb5⟩; have x5 := X4.out.1.drew.below hb5; obtain ⟨n0, n1, n2, n3, n4, n5, n13⟩ := x5.c; obtain ⟨n6, n7, n8, n9, n10, n11, n12⟩ := x5.cs; have fk5 := x5.kb.f; have v4 := fk5 4; have v5 := fk5 5; have v6 := fk5 6; have v7 := fk5 7; have v8 := fk5 8; have v9 := fk5 9; have v10 := fk5 10; have v11 := fk5 11; have v12 := fk5 12; clear x5 fk5; unfold Sv.val stA))
      all_goals
        have kf := (KAft.fin K4.out ((Below.refl W4.heap.size W4).drew.trans hb5) z' a5 (Sv.fit_of a5 Hs.out Hf.out e5) (K.n + 1) false e5)
        rw [show ((K.n + 1 : Nat) : Int) = (K.n : Int) + 1 from rfl, show onI false = 0 from rfl] at kf
        obtain ⟨W6, hW6⟩ : ∃ W6, W6 = (((((((((w5.setCell ⟨k, 5, none⟩ (.int .i64 ((K.n : Int) + 1))).setCell ⟨k, 6, none⟩ (.int .i64 z'.tm)).setCell ⟨k, 7, none⟩ (.int .i64 z'.vt)).setCell ⟨k, 8, none⟩ (.int .i64 z'.b)).setCell ⟨k, 9, none⟩ (.int .i64 z'.t)).setCell ⟨k, 10, none⟩ (.slice z'.A z'.n z'.c)).setCell ⟨k, 11, none⟩ (.slice z'.C z'.nc z'.cc)).setCell ⟨k, 12, none⟩ (.slice z'.S z'.ns z'.cs)).setCell ⟨k, 4, none⟩ (.int .i64 0)) := ⟨_, rfl⟩
        rw [← hW6] at kf ⊢
        have KF := Lib.hid kf
        clear kf hW6 n0 n1 n2 n3 n4 n5 n6 n7 n8 n9 n10 n11 n12 n13 v4 v5 v6 v7 v8 v9 v10 v11 v12 a5 e5 hb5
        go_wp2_with fail
        go_ret
        rw [HPP.out]
        exact ⟨rfl, z', KAft.up B.out.2.1 KF.out⟩
    · have hd0 : errD rr.2.2 = .iface 69 (.int .i64 rr.2.2) := by unfold errD; rw [if_neg hr0]
      replace c13 : W4.cell? ⟨k, 13, none⟩ = some (.iface 69 (.int .i64 rr.2.2)) := by rw [c13]; exact congrArg some hd0
      have hP : K.lay D s.st = ({ (K) with t0 := rr.1, dead := rr.2.2 }, rr.2.1, rr.2.2) := by
        rw [HPe.out, Hrr.out]
        unfold Kp.laid
        rw [if_neg hr0]
        rfl
      have HPP := Lib.hid hP
      rw [hd0] at HW4
      clear x4 hP l4 kp4
      rw [hd0]
      go_upto_region 11 with (fail)
      rw [← HW4.out]
      go_wp2_with fail
      go_ret
      rw [HPP.out]
      exact ⟨by rw [hd0]; rfl, z, KAft.up B.out.2.1 K4.out⟩
  · have hrd : decide ((nb : Int) ≤ K.t0.room) = false := decide_eq_false hroom
    have hroomP : ¬ ((b.length : Nat) : Int) ≤ K.t0.room := by rw [hlen]; exact hroom
    have HroomP := Lib.hid hroomP
    clear hroomP hroom
    by_cases hfull : K.w1 < (nb : Int)
    · have hfd : decide (K.w1 < (nb : Int)) = true := decide_eq_true hfull
      have hP : K.lay D s.st = (K, D, 10) := by
        unfold Kp.lay
        rw [HB.out, hon, if_neg (show ¬ ((b.length : Nat) : Int) ≤ (K.tape false).room from HroomP.out), if_pos (show K.whole (!false) < ((b.length : Nat) : Int) by show K.w1 < ((b.length : Nat) : Int); rw [hlen]; exact hfull)]
      have HPP := Lib.hid hP
      clear hP hfull
      go_wp2_with fail
      refine (room_any w1 X1.out.tx0).mono ?_
      rintro e w2 ⟨rfl, r, rfl⟩
      go_wp2_with fail
      go_ret
      rw [HPP.out]
      exact ⟨rfl, z, KAft.up B.out.2.1 ((KAft.of B.out.2.2.2.2.2 R1.out.2.2.2).below (below_drewN (Below.refl _ _) r))⟩
    · have hfd : decide (K.w1 < (nb : Int)) = false := decide_eq_false hfull
      have hPo : K.lay D s.st = K.over true (K.t1.reset D) b s.st := by
        unfold Kp.lay
        rw [HB.out, hon, if_neg (show ¬ ((b.length : Nat) : Int) ≤ (K.tape false).room from HroomP.out), if_neg (show ¬ K.whole (!false) < ((b.length : Nat) : Int) by show ¬ K.w1 < ((b.length : Nat) : Int); rw [hlen]; exact hfull)]
        rfl
      have HPo := Lib.hid hPo
      clear hPo hfull
      go_wp2_with fail
      refine (room_any w1 X1.out.tx0).mono ?_
      rintro e w2 ⟨rfl, r, rfl⟩
      have hb2 : Below w1.heap.size w1 (w1.drewN r) := below_drewN (Below.refl _ _) r
      have hb02 := R1.out.2.2.2.trans (hb2.mono R1.out.2.2.2.size)
      have xr := And.intro (X1.out.below hb2) (And.intro (fun b (h : L b) => (Or.inl h : L b ∨ W0.heap.size ≤ b)) (Kept.of_new (U := fun b => L b ∨ b = t0 ∨ b = t1 ∨ b = k) hb02))
      have XR := Lib.hid xr
      obtain ⟨r0, hr0'⟩ : ∃ r0, K.t1.reset D = r0 := ⟨_, rfl⟩
      have hrs := reset_any (w1.drewN r) XR.out.1.tx1 (by have := HQ0.out; omega)
      have hq1 := reset_q K.t1 D
      rw [hr0'] at hrs hq1
      have Hrs := Lib.hid hrs
      have Hr0 := Lib.hid hr0'
      have Hq1 := Lib.hid hq1
      clear hrs hr0' hq1 xr hb2 hb02
      go_wp2_with fail
      refine Hrs.out.mono ?_
      rintro e v3 ⟨rfl, haft⟩
      have j3 := KAft.s1 XR.out.1 XR.out.2.1 XR.out.2.2 haft
      have j4 := j3.dead_ r0.2.2
      have rb3 : Rd v3 (W0.heap.size ≤ ·) 1 Ab nb (bs b) := by
        obtain ⟨_, _, _, hk⟩ := haft
        refine ((R1.out.1.mono (ok' := (W0.heap.size ≤ ·)) fun b hb => hb).below (below_drewN (Below.refl _ _) r)).keep fun q hq hl => hk.block q hl fun hu => ?_
        have hq' : W0.heap.size ≤ q := hq
        have x0 := B.out.2.2.2.2.2
        rcases hu with hu | hu
        · have := x0.dx.lt q hu; omega
        · have h1 := x0.b0.lt; have h2 := x0.b1.lt; omega
      have rb4 : Rd (v3.setCell ⟨k, 13, none⟩ (errD r0.2.2)) T 1 Ab nb (bs b) := (rb3.setCell (p := ⟨k, 13, none⟩) (by have := B.out.2.2.2.2.2.kb.lt; show ¬ W0.heap.size ≤ k; omega) _).any
      obtain ⟨L3, x3, -, -⟩ := j3
      have m13 : v3.cell? ⟨k, 13, none⟩ = some (errD K.dead) := x3.kb.c 13
      have f13 := x3.kb.f 13
      obtain ⟨V4, hV4⟩ : ∃ V4, V4 = v3.setCell ⟨k, 13, none⟩ (errD r0.2.2) := ⟨_, rfl⟩
      rw [← hV4] at j4 rb4
      have HV4 := Lib.hid hV4
      have J4 := Lib.hid j4
      clear haft x3 hV4 rb3 c0 c1 c2 c3 c4 c5 c13
      obtain ⟨L4, y4, l4, kp4⟩ := j4
      obtain ⟨c0, c1, c2, c3, c4, c5, c13⟩ := y4.c
      by_cases hr1 : r0.2.2 = 0
      · have hd1 : errD r0.2.2 = .nilIface := by rw [hr1]; rfl
        rw [hd1] at HV4
        replace c13 : V4.cell? ⟨k, 13, none⟩ = some .nilIface := by rw [c13]; exact congrArg some hd1
        have XA := Lib.hid (And.intro y4 (And.intro l4 kp4))
        have RB := Lib.hid (And.intro rb4 (by omega : nb ≤ maxLen))
        have hq2 : r0.2.1.q.length ≤ 999000 := by have := HQ0.out; have := Hq1.out; omega
        have HQ := Lib.hid hq2
        clear hq2
        have hPe : K.lay D s.st = Kp.laid { K with t1 := r0.1, dead := r0.2.2 } true (r0.1.append r0.2.1 b) s.st := by
          rw [HPo.out, Hr0.out]
          unfold Kp.over
          rw [if_pos hr1, hr1]
          rfl
        have HPe := Lib.hid hPe
        clear y4 l4 kp4 rb4 hPe hr1
        rw [hd1]
        go_upto_region 5 with (fail)
        rw [← HV4.out]
        obtain ⟨rr, hrr⟩ : ∃ rr, r0.1.append r0.2.1 b = rr := ⟨_, rfl⟩
        have hap := append_any Ab nb cb b V4 XA.out.1.tx1 RB.out.1 RB.out.2 HQ.out
        rw [hrr] at hap
        have Hap := Lib.hid hap
        have Hrr := Lib.hid hrr
        clear hap hrr
        go_wp2_with fail
        refine Hap.out.mono ?_
        rintro e w3 ⟨rfl, haft⟩
        have k3 := KAft.s1 XA.out.1 XA.out.2.1 XA.out.2.2 haft
        have k4 := k3.dead_ rr.2.2
        obtain ⟨L3, x3, -, -⟩ := k3
        have m13 := x3.kb.c 13
        have f13 := x3.kb.f 13
        replace m13 : w3.cell? ⟨k, 13, none⟩ = some (errD r0.2.2) := m13
        obtain ⟨W4, hW4⟩ : ∃ W4, W4 = w3.setCell ⟨k, 13, none⟩ (errD rr.2.2) := ⟨_, rfl⟩
        rw [← hW4] at k4
        have HW4 := Lib.hid hW4
        have K4 := Lib.hid k4
        clear haft x3 hW4
        obtain ⟨L4, x4, l4, kp4⟩ := k4
        obtain ⟨c0, c1, c2, c3, c4, c5, c13⟩ := x4.c
        by_cases hr0 : rr.2.2 = 0
        · have hd0 : errD rr.2.2 = .nilIface := by rw [hr0]; rfl
          rw [hd0] at HW4
          replace c13 : W4.cell? ⟨k, 13, none⟩ = some .nilIface := by rw [c13]; exact congrArg some hd0
          have b4 := K4.out.bx B.out.1 B.out.2.2.2.1
          obtain ⟨i0, i1, i2, i3, i4, i5, i6⟩ := Sv.c7 b4
          have a4 := (K4.out.arg B.out.2.2.2.2.1 (fun b hb => hb))
          have how := fun W (hb : Below W4.heap.size W4 W) => Hown.out W (a4.below hb)
          have How := Lib.hid how
          have hP : K.lay D s.st = ({ ({ ({ K with t1 := r0.1, dead := r0.2.2 }) with t1 := rr.1, dead := rr.2.2 } : Kp) with n := K.n + 1, now := s.st, on := true }, rr.2.1, 0) := by
            rw [HPe.out, Hrr.out]
            unfold Kp.laid
            rw [if_pos hr0, hr0]
            rfl
          have HPP := Lib.hid hP
          have X4 := Lib.hid (And.intro x4 b4)
          replace c5 : W4.cell? ⟨k, 5, none⟩ = some (.int .i64 (K.n : Nat)) := c5
          have fk : ∀ i, W4.frozen? ⟨k, i, none⟩ = false := x4.kb.f
          clear x4 b4 a4 how hP l4 kp4 hr0
          rw [hd0]
          go_upto_region 13 with (fail)
          rw [← HW4.out]
          go_region_law (first
            | (go_simp; go_at_call 30; refine (How.out _ (Below.refl _ _).drew).mono ?_; rintro e w5 ⟨z', rfl, a5, e5, hb5⟩; have x5 := X4.out.1.drew.below hb5; obtain ⟨n0, n1, n2, n3, n4, n5, n13⟩ := x5.c; obtain ⟨n6, n7, n8, n9, n10, n11, n12⟩ := x5.cs; have fk5 := x5.kb.f; have v4 := fk5 4; have v5 := fk5 5; have v6 := fk5 6; have v7 := fk5 7; have v8 := fk5 8; have v9 := fk5 9; have v10 := fk5 10; have v11 := fk5 11; have v12 := fk5 12; clear x5 fk5; unfold Sv.val stA))
          all_goals
            have kf := (KAft.fin K4.out ((Below.refl W4.heap.size W4).drew.trans hb5) z' a5 (Sv.fit_of a5 Hs.out Hf.out e5) (K.n + 1) true e5)
            rw [show ((K.n + 1 : Nat) : Int) = (K.n : Int) + 1 from rfl, show onI true = 1 from rfl] at kf
            obtain ⟨W6, hW6⟩ : ∃ W6, W6 = (((((((((w5.setCell ⟨k, 5, none⟩ (.int .i64 ((K.n : Int) + 1))).setCell ⟨k, 6, none⟩ (.int .i64 z'.tm)).setCell ⟨k, 7, none⟩ (.int .i64 z'.vt)).setCell ⟨k, 8, none⟩ (.int .i64 z'.b)).setCell ⟨k, 9, none⟩ (.int .i64 z'.t)).setCell ⟨k, 10, none⟩ (.slice z'.A z'.n z'.c)).setCell ⟨k, 11, none⟩ (.slice z'.C z'.nc z'.cc)).setCell ⟨k, 12, none⟩ (.slice z'.S z'.ns z'.cs)).setCell ⟨k, 4, none⟩ (.int .i64 1)) := ⟨_, rfl⟩
            rw [← hW6] at kf ⊢
            have KF := Lib.hid kf
            clear kf hW6 n0 n1 n2 n3 n4 n5 n6 n7 n8 n9 n10 n11 n12 n13 v4 v5 v6 v7 v8 v9 v10 v11 v12 a5 e5 hb5
            go_wp2_with fail
            go_ret
            rw [HPP.out]
            exact ⟨rfl, z', KAft.up B.out.2.1 KF.out⟩
        · have hd0 : errD rr.2.2 = .iface 69 (.int .i64 rr.2.2) := by unfold errD; rw [if_neg hr0]
          replace c13 : W4.cell? ⟨k, 13, none⟩ = some (.iface 69 (.int .i64 rr.2.2)) := by rw [c13]; exact congrArg some hd0
          have hP : K.lay D s.st = ({ ({ K with t1 := r0.1, dead := r0.2.2 }) with t1 := rr.1, dead := rr.2.2 }, rr.2.1, rr.2.2) := by
            rw [HPe.out, Hrr.out]
            unfold Kp.laid
            rw [if_neg hr0]
            rfl
          have HPP := Lib.hid hP
          rw [hd0] at HW4
          clear x4 hP l4 kp4
          rw [hd0]
          go_upto_region 11 with (fail)
          rw [← HW4.out]
          go_wp2_with fail
          go_ret
          rw [HPP.out]
          exact ⟨by rw [hd0]; rfl, z, KAft.up B.out.2.1 K4.out⟩
      · have hd1 : errD r0.2.2 = .iface 69 (.int .i64 r0.2.2) := by unfold errD; rw [if_neg hr1]
        replace c13 : V4.cell? ⟨k, 13, none⟩ = some (.iface 69 (.int .i64 r0.2.2)) := by rw [c13]; exact congrArg some hd1
        have hP : K.lay D s.st = ({ K with t1 := r0.1, dead := r0.2.2 }, r0.2.1, r0.2.2) := by
          rw [HPo.out, Hr0.out]
          unfold Kp.over
          rw [if_neg hr1]
          rfl
        have HPP := Lib.hid hP
        rw [hd1] at HV4
        clear y4 hP l4 kp4 rb4
        rw [hd1]
        go_upto_region 5 with (fail)
        rw [← HV4.out]
        go_wp2_with fail
        go_ret
        rw [HPP.out]
        exact ⟨by rw [hd1]; rfl, z, KAft.up B.out.2.1 J4.out⟩
end Go.Proofs.YtlecglmiigdjlaaGreatDoor
