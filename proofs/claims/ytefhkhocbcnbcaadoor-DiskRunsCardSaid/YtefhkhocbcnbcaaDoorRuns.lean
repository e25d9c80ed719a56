/- The law DiskRuns, walked. -/
import Derived.Test.YtefhkhocbcnbcaaDoorAlT
import Derived.Test.YtefhkhocbcnbcaaDoorNilD
import Derived.Test.YtefhkhocbcnbcaaDoorSure
import Derived.Test.YtefhkhocbcnbcaaDoorNum
import Derived.BigQuiet
namespace Go.Proofs.YtefhkhocbcnbcaaDoor
open Go.RowKit
set_option maxRecDepth 100000
set_option linter.unusedVariables false
set_option linter.unusedSimpArgs false
theorem waits_q {L : Nat → Prop} {g : Nat} {D : Dk} {z : Nat} (w : World) (h : DX w L g D z) :
    Calls Tryd.prog 11 #[.pointer (some ⟨g, 0, none⟩)] w (fun e w' => e = .returned (.int .i64 (D.q.length : Nat)) ∧ w' = w) := by
  obtain ⟨s, o, cS, cO, Q, nq, cQ, qs, h, hk⟩ := h
  obtain ⟨-, -, k2, -, -⟩ := h.c
  rw [h.qlen]
  clear h
  go_enter Tryd.func11, Tryd.ntmps11
  go_wp2_with fail
  go_ret
  exact ⟨rfl, rfl⟩
theorem Alx.start {w w1 w2 : World} {L : Nat → Prop} {g z : Nat} {BA LA : Option Addr} {bn bc ln lc : Nat} {ls : List Wq} (hb0 : Below w.heap.size w w1) (hd : DX w1 L g (Dk.make z) z) (hL : ∀ b, L b → w.heap.size ≤ b) (hb2 : Below w1.heap.size w1 w2) (hx : RS w2 (w1.heap.size ≤ ·) (R3.make z) BA bn bc LA ln lc ls) :
    Alx w w2.heap.size g (Dk.make z) (R3.make z) 0 z (w2.alloc (.cells #[.slice BA bn bc, .slice LA ln lc, .int .i64 (-1), .bool false] 31)) := by
  have h1 := hb0.size
  have h2 := hb2.size
  have hlt := hd.lt
  refine ⟨⟨L, fun b => ¬ L b ∧ b ≠ w2.heap.size, (hd.below hb2).below ((Below.refl _ _).alloc (Nat.le_refl _) _), ⟨BA, bn, bc, LA, ln, lc, ls, Bx.new _ _ _ rfl, ?_⟩, fun b h => h.1, fun b h => h.2, fun h => ?_, hL, by omega, fun b hb => ⟨fun h => ?_, by omega⟩, rel_new, Nat.le_refl _, (hb0.trans (hb2.mono h1)).alloc (by omega) _⟩, by simp⟩
  · refine ((hx.lt.below ((Below.refl _ _).alloc (Nat.le_refl _) _)).mono fun b hb => ⟨fun h => ?_, ?_⟩)
    · have := hlt b h
      have := hb.1
      omega
    · have := hb.2
      omega
  · have := hlt _ h
    omega
  · have := hL b h
    omega
set_option maxHeartbeats 12800000 in
theorem runs_walk (z : Int) (A1 : Option Addr) (n1 c1 : Nat) (La : List Ac) (w : World) (hz : I64 z) (hr1 : Rd w T 5 A1 n1 (flat acell La)) (ha1 : ∀ y ∈ La, AcOk w y) (hg : ErrT w) :
    Calls Tryd.prog 5 #[.int .i64 z, .slice A1 n1 c1] w (YesPost w) := by
  have hsure := fun W => sure_any W
  have Hsure := Lib.hid hsure
  have Hr1 := Lib.hid hr1
  have Ha1 := Lib.hid ha1
  have Hg := Lib.hid hg
  have Hz := Lib.hid hz
  unfold I64 at hz
  have hw0 := hg.lt
  have hnum1 : ∀ W, Below w.heap.size w W → Calls Tryd.prog 16 #[.iface 56 (.int .i64 1)] W fun e w' => e = .returned (.int .i64 1) ∧ Below W.heap.size W w' := fun W hb => num_err 1 W (Hg.out.under hb hw0)
  have Hnum1 := Lib.hid hnum1
  clear hr1 ha1 hg hsure hnum1
  go_enter Tryd.func5, Tryd.ntmps5
  go_wp2_with fail
  refine (read_nil _).mono ?_
  rintro e w1 ⟨rfl, hb1⟩
  have Hb1 := Lib.hid hb1
  clear hb1
  go_wp2_with fail
  refine (start_nil _).mono ?_
  rintro e w2 ⟨rfl, hb2⟩
  have hb := Hb1.out.trans (hb2.mono Hb1.out.size)
  have Hb2 := Lib.hid hb
  clear hb hb2
  go_wp2_with fail
  refine (Hnum1.out _ Hb2.out).mono ?_
  rintro e w3 ⟨rfl, hb3⟩
  have hb := Hb2.out.trans (hb3.mono Hb2.out.size)
  have Hb3 := Lib.hid hb
  clear hb hb3
  go_wp2_with fail
  refine (write_nil _).mono ?_
  rintro e w4 ⟨rfl, hb4⟩
  have hb := Hb3.out.trans (hb4.mono Hb3.out.size)
  have Hb4 := Lib.hid hb
  clear hb hb4
  go_wp2_with fail
  refine (Hnum1.out _ Hb4.out).mono ?_
  rintro e w5 ⟨rfl, hb5⟩
  have hb := Hb4.out.trans (hb5.mono Hb4.out.size)
  have Hb5 := Lib.hid hb
  clear hb hb5
  go_wp2_with fail
  refine (sync_nil _).mono ?_
  rintro e w6 ⟨rfl, hb6⟩
  have hb := Hb5.out.trans (hb6.mono Hb5.out.size)
  have Hb6 := Lib.hid hb
  clear hb hb6
  go_wp2_with fail
  refine (Hnum1.out _ Hb6.out).mono ?_
  rintro e w7 ⟨rfl, hb7⟩
  have hb := Hb6.out.trans (hb7.mono Hb6.out.size)
  have Hb7 := Lib.hid hb
  clear hb hb7
  go_wp2_with fail
  refine (arm_nil _).mono ?_
  rintro e w8 ⟨rfl, hb8⟩
  have hb := Hb7.out.trans (hb8.mono Hb7.out.size)
  have Hb8 := Lib.hid hb
  clear hb hb8
  go_wp2_with fail
  refine (Hnum1.out _ Hb8.out).mono ?_
  rintro e w9 ⟨rfl, hb9⟩
  have hb := Hb8.out.trans (hb9.mono Hb8.out.size)
  have Hb9 := Lib.hid hb
  clear hb hb9
  go_wp2_with fail
  refine (size_nil _).mono ?_
  rintro e w10 ⟨rfl, rfl⟩
  go_wp2_with fail
  refine (waits_nil _).mono ?_
  rintro e w10 ⟨rfl, rfl⟩
  go_wp2_with fail
  refine (down_nil _).mono ?_
  rintro e w10 ⟨rfl, rfl⟩
  go_wp2_with fail
  refine (clone_nil _).mono ?_
  rintro e w10 ⟨rfl, hb10⟩
  have hb := Hb9.out.trans (hb10.mono Hb9.out.size)
  have HbA := Lib.hid hb
  clear hb hb10 Hb1 Hb2 Hb3 Hb4 Hb5 Hb6 Hb7 Hb8 Hb9
  by_cases hbig : (3000 : Int) < z ∧ z ≤ 4194304
  · obtain ⟨k1, k2⟩ := hbig
    go_wp2_with fail
    refine (Hsure.out _).mono ?_
    rintro e w11 ⟨rfl, hb11⟩
    go_wp2_with fail
    go_ret
    exact ⟨rfl, HbA.out.trans (hb11.mono HbA.out.size)⟩
  by_cases hbad : z < 1 ∨ 4194304 < z
  · have hnn := fun W => new_no z hbad Hz.out W
    have hn3 := fun W => new3_any z Hz.out W
    have hnb : ¬ (1 ≤ z ∧ z ≤ 4194304) := by omega
    go_upto_region 6 with (fail)
    go_cut [69] (fun s69 W => s69 = .bool false ∧ W = w10)
    case first =>
      by_cases k1 : (3000 : Int) < z
      · have k2 : decide (z ≤ 4194304) = false := by simp; omega
        go_wp2_with fail
        go_meet
        case rel => exact ⟨rfl, rfl⟩
      · have k2 : decide ((3000 : Int) < z) = false := by simp; omega
        go_wp2_with fail
        go_meet
        case rel => exact ⟨rfl, rfl⟩
    case rest =>
    obtain ⟨rfl, rfl⟩ := hcut
    clear hbig
    have Hnb := Lib.hid hnb
    have Hbad := Lib.hid hbad
    clear hnb hbad hz
    go_wp2_with fail
    refine (hnn _).mono ?_
    rintro e w11 ⟨rfl, hb11⟩
    have hb := HbA.out.trans (hb11.mono HbA.out.size)
    have HbB := Lib.hid hb
    clear hb hb11
    go_wp2_with fail
    refine (hn3 _).mono ?_
    rintro e w12 ⟨hb12, h | h⟩
    · obtain ⟨-, rfl⟩ := h
      have hb := HbB.out.trans (hb12.mono HbB.out.size)
      have hb' := hb.alloc hb.size (.cells #[.slice none 0 0, .slice none 0 0, .int .i64 0, .bool false] 31)
      have HbC := Lib.hid hb'
      have HbD := Lib.hid hb
      clear hb hb12 hb'
      go_wp2_with fail
      refine (Hnum1.out _ HbC.out).mono ?_
      rintro e w13 ⟨rfl, hb13⟩
      have hb := HbC.out.trans (hb13.mono HbC.out.size)
      have HbE := Lib.hid hb
      clear hb hb13
      go_wp2_with fail
      refine (Hsure.out _).mono ?_
      rintro e w14 ⟨rfl, hb14⟩
      go_wp2_with fail
      go_ret
      exact ⟨rfl, HbE.out.trans (hb14.mono HbE.out.size)⟩
    · exact absurd ⟨h.1, h.2.1⟩ Hnb.out
  obtain ⟨N, rfl⟩ : ∃ N : Nat, z = N := ⟨z.toNat, by omega⟩
  have hN1 : 1 ≤ N := by omega
  have hN2 : N ≤ 3000 := by omega
  have k2 : decide ((3000 : Int) < (N : Int)) = false := by simp; omega
  have hnew := fun W => new_any N hN1 (by omega) W
  have hn3 := fun W => new3_any (N : Int) Hz.out W
  have Hnew := Lib.hid hnew
  have Hn3 := Lib.hid hn3
  have hNN : (N : Int).toNat = N := by simp
  clear hnew hn3 hbig hbad hz
  go_wp2_with fail
  refine (Hnew.out _).mono ?_
  rintro e w11 ⟨L, g, rfl, hx, hL, hb11⟩
  have hb := HbA.out.trans (hb11.mono HbA.out.size)
  have HbB := Lib.hid hb
  have hL' : ∀ b, L b → w.heap.size ≤ b := fun b hb => Nat.le_trans HbA.out.size (hL b hb)
  have Hx := Lib.hid hx
  have HL := Lib.hid hL'
  clear hb hb11 hx hL hL' Hnew
  go_wp2_with fail
  refine (Hn3.out _).mono ?_
  rintro e w12 ⟨hb12, h | ⟨-, -, v, rfl, BA, bn, bc, LA, ln, lc, ls, rfl, hx2⟩⟩
  · omega
  rw [hNN] at hx2 ⊢
  have hst := Alx.start HbB.out Hx.out HL.out hb12 hx2
  unfold rval
  have e1 : (R3.make N).armed = -1 := rfl
  have e2 : (R3.make N).off = false := rfl
  rw [e1, e2]
  have Hst := Lib.hid hst
  clear hst hb12 hx2 Hn3 e1 e2 hNN HL Hx HbA HbB
  go_wp2_with fail
  refine (num_nil _).mono ?_
  rintro e w13 ⟨rfl, hb13⟩
  have hst := Hst.out.below hb13
  have Hst2 := Lib.hid hst
  clear hst hb13 Hst
  go_wp2_with fail
  go_loopg [12] 40 (fun m s12 wr => ∃ i, m = 40 - i ∧ i ≤ 40 ∧ s12 = .int .i64 (i : Nat) ∧ Alx w w12.heap.size g ((Dk.make N).acts (La.take i)) ((R3.make N).acts (La.take i)) i N wr)
  case atStart => exact ⟨0, by omega, by omega, rfl, Hst2.out⟩
  case round =>
    obtain ⟨i, hm, hi, rfl, hp⟩ := hrel
    have Hm := Lib.hid hm
    have Hp := Lib.hid hp
    clear hm hp
    obtain ⟨wq, rfl⟩ : ∃ wq, wq = wr := ⟨_, rfl⟩
    go_upto_region 15 with (fail)
    go_cut [102] (fun s102 W => s102 = .bool (decide (i < n1 ∧ i < 40)) ∧ W = wq)
    case first =>
      by_cases h1 : i < n1
      · have h1I : (i : Int) < n1 := by omega
        by_cases h2 : i < 40
        · have h2I : (i : Int) < 40 := by omega
          go_wp2_with fail
          go_meet
          case rel => exact ⟨by simp [h1, h2], rfl⟩
        · have h2d : decide ((i : Int) < 40) = false := by simp; omega
          go_wp2_with fail
          go_meet
          case rel => exact ⟨by simp [h1, h2], rfl⟩
      · have h1d : decide ((i : Int) < n1) = false := by simp; omega
        go_wp2_with fail
        go_meet
        case rel => exact ⟨by simp [h1], rfl⟩
    case rest =>
    obtain ⟨rfl, rfl⟩ := hcut
    by_cases hlt : i < n1 ∧ i < 40
    · have hd39 : decide (i < n1 ∧ i < 40) = true := by simp [hlt]
      rw [hd39]
      obtain ⟨hin, hi40⟩ := hlt
      obtain ⟨b, o, y, rfl, _, hbl, hy, d0, d1, d2, d3, d4⟩ := ac_cells (Hr1.out.below Hp.out.be) hin
      have hinI : (i : Int) < n1 := by omega
      have h0i : (0 : Int) ≤ i := by omega
      obtain ⟨BA, bn, bc, LA, ln, lc, hx1, hc⟩ := Hp.out.step (Ha1.out y (List.mem_of_getElem? hy)) (by omega) (by omega) Hg.out
      obtain ⟨q0, q1, q2, q3, f0, f1, f2, f3⟩ := hx1.c4
      have etk : La.take (i + 1) = La.take i ++ [y] := by rw [List.take_add_one, hy]; rfl
      have Etk := Lib.hid etk
      have Hc := Lib.hid hc
      have Hy := Lib.hid hy
      have ea : ∀ (ob : Obj) (k i : Nat) (v : Value), k < wc.heap.size → wc.cell? ⟨k, i, none⟩ = some v → (wc.alloc ob).cell? ⟨k, i, none⟩ = some v := fun ob k i v hk h => (((Below.refl wc.heap.size wc).alloc (Nat.le_refl _) ob).cell (p := ⟨k, i, none⟩) hk).trans h
      have p0 := fun ob => ea ob _ _ _ hx1.lt q0
      have p1 := fun ob => ea ob _ _ _ hx1.lt q1
      have p2 := fun ob => ea ob _ _ _ hx1.lt q2
      have p3 := fun ob => ea ob _ _ _ hx1.lt q3
      have d0' := fun ob => ea ob _ _ _ hbl d0
      have d1' := fun ob => ea ob _ _ _ hbl d1
      have d2' := fun ob => ea ob _ _ _ hbl d2
      have d3' := fun ob => ea ob _ _ _ hbl d3
      have d4' := fun ob => ea ob _ _ _ hbl d4
      have hBlt := hx1.lt
      have HBlt := Lib.hid hBlt
      clear hc etk hy hx1 ea hBlt
      obtain ⟨D1, hD1⟩ : ∃ D1, D1 = (((Dk.make N).acts (La.take i)).act y).1 := ⟨_, rfl⟩
      obtain ⟨R1, hR1⟩ : ∃ R1, R1 = (((R3.make N).acts (La.take i)).act y).1 := ⟨_, rfl⟩
      rw [← hD1, ← hR1] at Hc
      have HD1 := Lib.hid hD1
      have HR1 := Lib.hid hR1
      clear hD1 hR1
      go_upto_region 17 with (fail)
      go_cut [13, 14] (fun s13 s14 W => ∃ t, s13 = .pointer (some ⟨t, 0, none⟩) ∧ s14 = .bool true ∧ StoreA w w12.heap.size g D1 R1 (i + 1) N t W)
      case first =>
        go_region_law (first
          | (rw [if_pos (by rfl)]; go_simp; go_at_call 8; refine (Hc.out _ (by first | exact Below.refl _ _ | exact (Below.refl _ _).alloc (Nat.le_refl _) _)).mono ?_; rintro e w4 ⟨BA4, bn4, bc4, LA4, ln4, lc4, rfl, hs4⟩; have Hs4 := Lib.hid hs4; clear hs4 q0 q1 q2 q3 f0 f1 f2 f3 p0 p1 p2 p3 d0' d1' d2' d3' d4'; try (have hT := AlT.temp Hs4.out rfl; obtain ⟨t0, t1, t2, t3, t4, t5, t6, t7⟩ := hT.c4)))
        all_goals
          go_wp2_with fail
          go_meet
          case rel =>
            first
              | exact ⟨_, rfl, rfl, AlT.new Hs4.out⟩
              | exact ⟨_, rfl, rfl, AlT.old Hs4.out HBlt.out rfl⟩
      case rest =>
        obtain ⟨t, rfl, rfl, BA4, bn4, bc4, LA4, ln4, lc4, hTB, hxT, ⟨e0, e1, e2, e3, hxB⟩, hp4⟩ := hcut
        obtain ⟨y0, y1, y2, y3, -⟩ := hxT.c4
        obtain ⟨z0, z1, z2, z3, g0, g1, g2, g3⟩ := hxB.c4
        have hW5 : ∃ W5, W5 = ((((wc.setCell ⟨w12.heap.size, 0, none⟩ (.slice BA4 bn4 bc4)).setCell ⟨w12.heap.size, 1, none⟩ (.slice LA4 ln4 lc4)).setCell ⟨w12.heap.size, 2, none⟩ (.int .i64 R1.armed)).setCell ⟨w12.heap.size, 3, none⟩ (.bool R1.off)) := ⟨_, rfl⟩
        clear hxT hxB hTB q0 q1 q2 q3 f0 f1 f2 f3 p0 p1 p2 p3 d0' d1' d2' d3' d4' d0 d1 d2 d3 d4
        have Hp4 := Lib.hid hp4
        clear hp4
        go_upto_region 19 with (fail)
        obtain ⟨W5, hW5⟩ := hW5
        have hp5 := Hp4.out
        rw [← hW5] at hp5 ⊢
        clear Hp4 hW5 y0 y1 y2 y3 z0 z1 z2 z3 g0 g1 g2 g3
        obtain ⟨L5, ok5, BA5, bn5, bc5, LA5, ln5, lc5, ls5, hdx, hx5, hrs, hrl, hq5⟩ := hp5.facts (by omega)
        have hql := hrs.qlen
        have ho : R1.off = D1.off := hrl.off
        have hll : R1.l = D1.q := hrl.l
        obtain ⟨z0, z1, z2, z3, -⟩ := hx5.c4
        have hln : ln5 = D1.q.length := by rw [← hql, hll]
        rw [ho] at z3
        rw [hln] at z1
        have hne : (D1.off != D1.off) = false := by simp
        have hdd := fun n => down_any (W5.drewN n) (hdx.keep (W' := W5.drewN n) (fun _ _ => rfl) (Nat.le_refl _))
        have hww := fun n => waits_q (W5.drewN n) (hdx.keep (W' := W5.drewN n) (fun _ _ => rfl) (Nat.le_refl _))
        have hss := fun n => size_any (W5.drewN n) (hdx.keep (W' := W5.drewN n) (fun _ _ => rfl) (Nat.le_refl _))
        have Hdd := Lib.hid hdd
        have Hww := Lib.hid hww
        have Hss := Lib.hid hss
        have Hp5 := Lib.hid hp5
        clear hdd hww hss hp5 hdx hx5 hrs hrl hq5 hql ho hll hln
        go_cut [138] (fun s138 W => s138 = .bool false ∧ ∃ n, W = W5.drewN n)
        case first =>
          go_wp2_with fail
          go_quiet (first | (go_at_call 10; exact Calls.quiet_of_same (Hdd.out _)) | (go_at_call 11; exact Calls.quiet_of_same (Hww.out _)) | (go_at_call 19; exact Calls.quiet_of_same (Hss.out _)))
          go_wp2_with fail
          go_meet
          case rel => exact ⟨rfl, _, rfl⟩
        case rest =>
          obtain ⟨rfl, nd, rfl⟩ := hcut
          go_wp2_with fail
          go_roundg (40 - (i + 1))
          case measure => have := Hm.out; omega
          case rel =>
            refine ⟨i + 1, rfl, by omega, by go_num, ?_⟩
            rw [Etk.out, Dk.acts_one, R3.acts_one, ← HD1.out, ← HR1.out]
            exact Hp5.out.below ⟨rfl, rfl, rfl, Nat.le_refl _, fun _ _ => rfl⟩
    · have hd39 : decide (i < n1 ∧ i < 40) = false := by simp only [hlt]; rfl
      rw [hd39]
      obtain ⟨L5, ok5, BA5, bn5, bc5, LA5, ln5, lc5, ls5, hdx, hx5, hrs, hrl, hq5⟩ := Hp.out.facts (by omega)
      have hok := hdx.ok
      have hbe := Hp.out.be
      have ek := hrl.read hok 0 (N : Nat)
      have hbl := hrl.blen hok
      have hbn : bn5 = N := by rw [← hrs.blen, hbl]
      have hll := hrs.qlen
      have hlq := hrl.qlen
      have hcD := read_any 0 (N : Nat) wc hdx (by unfold I64; omega) (by unfold I64; omega)
      unfold ReadPost at hcD
      have hcR := fun w1 (h1 : Below wc.heap.size wc w1) => read3_any 0 (N : Nat) (by unfold I64; omega) (by unfold I64; omega) w1 (hrs.below h1) (by rw [hbn]; exact hrl.fit hok) (by omega) (by omega)
      unfold Read3Post at hcR
      unfold rval at hcR
      rw [ek] at hcR
      have hx5b := fun w1 (h1 : Below wc.heap.size wc w1) => hx5.below h1
      obtain ⟨S, hS⟩ : ∃ S, S = (((Dk.make N).acts (La.take i)).read 0 (N : Nat)).1 := ⟨_, rfl⟩
      obtain ⟨k, hk⟩ : ∃ k, k = (((Dk.make N).acts (La.take i)).read 0 (N : Nat)).2 := ⟨_, rfl⟩
      rw [← hS, ← hk] at hcD hcR
      obtain ⟨R5, hR5⟩ : ∃ R5, R5 = (R3.make N).acts (La.take i) := ⟨_, rfl⟩
      rw [← hR5] at hcR hx5b
      have HcR := Lib.hid hcR
      have Hbe := Lib.hid hbe
      have Hx5b := Lib.hid hx5b
      clear hlt hdx hx5 hrs hrl hq5 hok hbe ek hbl hbn hll hlq hcR hx5b hS hk hR5 Hp Hm
      go_wp2_with fail
      refine hcD.mono ?_
      rintro e w6 ⟨A6, c6, rfl, hr6, hb6⟩
      have hx6 := Hx5b.out _ hb6
      obtain ⟨z0, z1, z2, z3, -⟩ := hx6.c4
      have hR := HcR.out _ hb6
      have hb := Hbe.out.trans (hb6.mono Hbe.out.size)
      have Hb6 := Lib.hid hb
      have Hr6 := Lib.hid hr6
      have HR := Lib.hid hR
      clear hcD hr6 hb6 hx6 hR HcR Hx5b hb
      go_wp2_with fail
      refine HR.out.mono ?_
      rintro e w7 ⟨A7, c7, rfl, hr7, hb7⟩
      have hcv1 := conv_bytes (P := Tryd.prog) (c := c6) 28 9 5 Tryd.underlying28 Tryd.underlying5 Tryd.underlying9 (Hr6.out.below hb7)
      have hcv2 := conv_bytes (P := Tryd.prog) (c := c7) 28 9 5 Tryd.underlying28 Tryd.underlying5 Tryd.underlying9 hr7
      have hb := Hb6.out.trans (hb7.mono Hb6.out.size)
      have hnum : Calls Tryd.prog 16 #[errD k] w7 fun e w' => e = .returned (.int .i64 k) ∧ Below w7.heap.size w7 w' := num_any k w7 (Hg.out.under hb hw0)
      have Hb7 := Lib.hid hb
      have Hnum := Lib.hid hnum
      clear hr7 hb7 hb hnum HR z0 z1 z2 z3
      go_wp2_with fail
      refine Hnum.out.mono ?_
      rintro e w8 ⟨rfl, hb8⟩
      go_wp2_with fail
      refine (Hsure.out _).mono ?_
      rintro e w9 ⟨rfl, hb9⟩
      go_wp2_with fail
      go_ret
      have b1 := Hb7.out.trans (hb8.mono Hb7.out.size)
      exact ⟨rfl, b1.trans (hb9.mono b1.size)⟩
end Go.Proofs.YtefhkhocbcnbcaaDoor
