/- The law TapeRuns, walked. -/
import Derived.Test.YtijgkejknijplaaDoorRunsI
import Derived.Test.YtijgkejknijplaaDoorBoolR
namespace Go.Proofs.YtijgkejknijplaaDoor
open Go.RowKit
set_option maxRecDepth 100000
set_option linter.unusedVariables false
set_option linter.unusedSimpArgs false
/-- Behind the first lines. -/
theorem RunM.start {w w3 w4 w5 : World} {L : Nat → Prop} {N g tg M c : Nat} {t : Tp} {D : Dk} {Q : Option Addr} {nl : List UInt8} (hb3 : Below w.heap.size w w3) (hL : ∀ b, L b → w.heap.size ≤ b) (hb4 : Below w3.heap.size w3 w4) (ht : w3.heap.size ≤ tg) (htd : TDX w4 L tg g t D N) (hb5 : Below w4.heap.size w4 w5) (ho : w5.ownsRow w4.heap.size 5 1 (.slice Q M c) M (bs nl)) : RunM w N g tg t D L Q M c nl w5 := by
  have h1 := hb3.size
  have h2 := hb4.size
  have hol := own_lt ho
  have hlt := htd.dx.lt
  have htl := htd.lt
  have hb34 := hb3.trans (hb4.mono h1)
  exact ⟨htd.below hb5, own_up ho (by omega), fun b hb => ⟨fun hl => by have := hlt b hl; have := (hol b hb).1; omega, by have := (hol b hb).1; omega⟩, hL, by omega, hb34.trans (hb5.mono hb34.size)⟩
set_option maxHeartbeats 25600000 in
theorem runs_walk (A : Option Addr) (n c : Nat) (b : List UInt8) (B : Option Addr) (ln lc : Nat) (l : List Br) (RA : Option Addr) (rn rc : Nat) (rl : List Bool) (w : World) (hr : Rd w T 1 A n (bs b)) (hnc : n ≤ c) (hcm : c ≤ maxLen) (hl : BRT w B ln l) (hlm : ∀ x ∈ l, x.n ≤ x.m ∧ x.m ≤ maxLen) (hrl : Rd w T 1 RA rn (flat boolc rl)) (hg : ErrT w) :
    Calls Tryd.prog 5 #[.slice A n c, .slice B ln lc, .slice RA rn rc] w (YesPost w) := by
  have hbl := hr.blen
  have hsure := fun W => sure_any W
  have Hsure := Lib.hid hsure
  have Hg := Lib.hid hg
  have Hr := Lib.hid hr
  have Hl := Lib.hid hl
  have Hlm := Lib.hid hlm
  have Hrl := Lib.hid hrl
  have hw0 := hg.lt
  have hnum : ∀ k W, Below w.heap.size w W → Calls Tryd.prog 12 #[errD k] W fun e w' => e = .returned (.int .i64 k) ∧ Below W.heap.size W w' := fun k W hb => num_any k W (Hg.out.under hb hw0)
  have Hnum := Lib.hid hnum
  have hnum1 : ∀ W, Below w.heap.size w W → Calls Tryd.prog 12 #[.iface 58 (.int .i64 1)] W fun e w' => e = .returned (.int .i64 1) ∧ Below W.heap.size W w' := fun W hb => Hnum.out 1 W hb
  have Hnum1 := Lib.hid hnum1
  have Hbl := Lib.hid hbl
  unfold maxLen at hcm
  clear hsure hg hr hl hlm hrl hnum hnum1 hbl
  go_enter Tryd.func5, Tryd.ntmps5
  go_wp2_with fail
  refine (append_nil _).mono ?_
  rintro e w1 ⟨rfl, hb1⟩
  have Hb1 := Lib.hid hb1
  clear hb1
  go_wp2_with fail
  refine (Hnum1.out _ Hb1.out).mono ?_
  rintro e w2 ⟨rfl, hb2⟩
  have hb := Hb1.out.trans (hb2.mono Hb1.out.size)
  have Hb2 := Lib.hid hb
  clear hb hb2
  go_wp2_with fail
  refine (reset_nil _).mono ?_
  rintro e w3 ⟨rfl, hb3⟩
  have hb := Hb2.out.trans (hb3.mono Hb2.out.size)
  have Hb3 := Lib.hid hb
  clear hb hb3
  go_wp2_with fail
  refine (Hnum1.out _ Hb3.out).mono ?_
  rintro e w4 ⟨rfl, hb4⟩
  have hb := Hb3.out.trans (hb4.mono Hb3.out.size)
  have Hb4 := Lib.hid hb
  clear hb hb4
  go_wp2_with fail
  refine (room_nil _).mono ?_
  rintro e w5 ⟨rfl, rfl⟩
  go_wp2_with fail
  refine (len_nil _).mono ?_
  rintro e w5 ⟨rfl, rfl⟩
  clear Hb1 Hb2 Hb3 Hnum1
  obtain ⟨w0, hw0'⟩ : ∃ w0, w0 = w5 := ⟨_, rfl⟩
  rw [← hw0'] at Hb4 ⊢
  clear hw0'
  by_cases hlen : n < 7 ∨ 600 < n
  · have hh : ((n : Int) < 7 ∧ True) ∨ ((600 : Int) < n ∧ decide ((n : Int) < 7) = false) := by
      rcases hlen with h | h
      · exact .inl ⟨by omega, trivial⟩
      · exact .inr ⟨by omega, by simp; omega⟩
    clear hlen
    rcases hh with ⟨h1, -⟩ | ⟨h1, h2⟩
    all_goals
      go_wp2_with fail
      refine (Hsure.out _).mono ?_
      rintro e w6 ⟨rfl, hb6⟩
      go_wp2_with fail
      go_ret
      exact ⟨rfl, Hb4.out.trans (hb6.mono Hb4.out.size)⟩
  have h1d : decide ((n : Int) < 7) = false := by simp; omega
  have h2d : decide ((600 : Int) < (n : Int)) = false := by simp; omega
  have hn7 : 7 ≤ n := by omega
  have hn6 : n ≤ 600 := by omega
  have hnew := new_any n (by omega) (by omega) w0
  have hlaid := laid_all b
  rw [Hbl.out] at hlaid
  have Hlaid := Lib.hid hlaid
  obtain ⟨M, hM⟩ : ∃ M, M = n - 2 := ⟨_, rfl⟩
  have hMn : n = M + 2 := by omega
  have hMI : (n : Int) - 2 = (M : Int) := by omega
  have HMI := Lib.hid hMI
  have HMn := Lib.hid hMn
  clear hlen hlaid hM hMI hMn
  go_wp2_with fail
  refine hnew.mono ?_
  rintro e w1 ⟨L, g, rfl, hdx, hL, hb1⟩
  have hLw : ∀ k, L k → w.heap.size ≤ k := fun k hk => Nat.le_trans Hb4.out.size (hL k hk)
  have hbw1 := Hb4.out.trans (hb1.mono Hb4.out.size)
  have hwr := write_any 0 A n c b w1 hdx (((Hr.out.lt (by omega)).below hbw1).mono fun k hk hl => by have := hLw k hl; have := hk.2; omega) (by unfold I64; omega) (by omega) (by rw [make_q]; omega)
  unfold WritePost at hwr
  rw [Hlaid.out.1, errD_nil] at hwr
  have hq1 := write_q (Dk.make n) 0 b
  rw [make_q] at hq1
  obtain ⟨D1, hD1⟩ : ∃ D1, D1 = ((Dk.make n).write 0 b).1 := ⟨_, rfl⟩
  rw [← hD1] at hwr hq1
  obtain ⟨-, l2, l3, l4, l5⟩ := Hlaid.out
  rw [← hD1] at l2 l3 l4 l5
  have Hwr := Lib.hid hwr
  have HL := Lib.hid hLw
  have Hb1 := Lib.hid hbw1
  have Hl2 := Lib.hid l2
  have Hl3 := Lib.hid l3
  have Hl4 := Lib.hid l4
  have Hl5 := Lib.hid l5
  clear hnew hwr hdx hL hLw hb1 hbw1 Hlaid hD1 l2 l3 l4 l5
  go_wp2_with fail
  refine Hwr.out.mono ?_
  rintro e w2 ⟨rfl, L2, hdx2, hl2, hk2⟩
  have hsy := sync_any w2 hdx2 (by omega)
  unfold SyncPost at hsy
  rw [Hl2.out, errD_nil] at hsy
  obtain ⟨D2, hD2⟩ : ∃ D2, D2 = D1.sync.1 := ⟨_, rfl⟩
  rw [← hD2] at hsy Hl3 Hl4 Hl5
  have hL2 : ∀ k, L2 k → w.heap.size ≤ k := fun k hk => by
    rcases hl2 k hk with h | h
    · exact HL.out k h
    · exact Nat.le_trans Hb1.out.size h
  have hb2 : Below w.heap.size w w2 := Hb1.out.trans (hk2.below (fun k hk => HL.out k hk) Hb1.out.size)
  have Hsy := Lib.hid hsy
  have HL2 := Lib.hid hL2
  have Hb2 := Lib.hid hb2
  clear hsy hdx2 hl2 hk2 hL2 hb2 hD2 Hwr hq1
  go_wp2_with fail
  refine Hsy.out.mono ?_
  rintro e w3 ⟨rfl, L3, hdx3, hl3, hk3⟩
  have hL3 : ∀ k, L3 k → w.heap.size ≤ k := fun k hk => by
    rcases hl3 k hk with h | h
    · exact HL2.out k h
    · exact Nat.le_trans Hb2.out.size h
  have hop := open_any 1 (M : Nat) w3 hdx3 (by unfold I64; omega) (by unfold I64; have := HMn.out; omega)
  have hb3 : Below w.heap.size w w3 := Hb2.out.trans (hk3.below (fun k hk => HL2.out k hk) Hb2.out.size)
  have Hop := Lib.hid hop
  have Hb3 := Lib.hid hb3
  have HL3 := Lib.hid hL3
  clear hop hdx3 hl3 hk3 hb3 hL3 Hsy
  go_wp2_with fail
  rw [HMI.out]
  have hMn := HMn.out
  have ho : D2.off = false := Hl3.out.off
  have hng : ¬ BadArea n 1 M := by unfold BadArea; omega
  refine Hop.out.mono ?_
  rintro e w4 ⟨hb4, ⟨h, -⟩ | ⟨-, h, -⟩ | ⟨-, -, hhalt, rfl⟩ | ⟨-, -, hhalt, tg, A4, m4, c4, rows4, rfl, htw, htd, -, hmap, -⟩⟩
  · exact absurd h hng
  · rw [ho] at h; cases h
  · rw [show ((1 : Int).toNat) = 1 from rfl, Int.toNat_natCast] at hhalt
    rw [Hl4.out] at hhalt
    have Hb4 := Lib.hid (Hb3.out.trans (hb4.mono Hb3.out.size))
    have hcut := recs_cut (l := b) (a := 1) (s := M) (by rw [Hbl.out]; omega)
    rw [hhalt] at hcut
    obtain ⟨nl, hnl⟩ : ∃ nl, nl = cutAt b 1 M := ⟨_, rfl⟩
    have hrun := run_slice_lohi (P := Tryd.prog) 22 Tryd.underlying22 (size := 1) (by kernel_rfl) A n c
    obtain ⟨ad, had⟩ : ∃ ad, ad = (if c = 1 then A else A.map (·.add (1 * 1))) := ⟨_, rfl⟩
    have hsl : ∀ W : World, (Instr.sliceAt 22 (.slice A n c) (some (.int .i64 1)) (some (.int .i64 ((n : Int) - 1))) none).run Tryd.prog W = .ok (.slice ad M (c - 1)) W := by
      intro W
      have := hrun W 1 (1 + M) (by omega) (by omega)
      rw [← had] at this
      rw [show 1 + M - 1 = M by omega] at this
      rw [show ((n : Int) - 1) = ((1 + M : Nat) : Int) by omega]
      exact this
    have hrd := Hr.out.bsub (i := 1) (k := M) (m := c) (by omega) (by omega)
    have e1 : (if c = 1 then A else A.map (·.add 1)) = ad := by rw [had, Nat.mul_one]
    rw [e1, show (b.drop 1).take M = nl by rw [hnl]; rfl] at hrd
    rw [← hnl] at hcut
    have hrd4 : Rd w4 T 1 ad M (bs nl) := hrd.below Hb4.out
    have Hcut := Lib.hid hcut
    have Hnl := Lib.hid hnl
    have Hrd4 := Lib.hid hrd4
    have hM6 : M ≤ 600 := by omega
    have HMn2 := Lib.hid hMn
    clear hrun had hrd e1 hcut hrd4 hnl hMn ho hng
    clear hhalt hb4 Hop
    go_wp2_with (at_builtin; go_must (refine wpList_append_any _ Tryd.underlying22 u8_elem rfl (by omega) rfl rfl rfl (own_nil _ w4.heap.size 5 1 0 rfl) rfl Hrd4.out (bs_one _) (by omega) (Nat.le_refl _) (Nat.zero_add _) (List.nil_append _) ?_); intro Q5 c5 w5 hown5 hg5 hat5; have hb5 : Below w4.heap.size w4 w5 := (Below.refl _ _).grown hg5 (Nat.le_refl _) (by simp); have Hb5 := Lib.hid hb5; have Hown5 := Lib.hid hown5; clear hb5 hown5 hg5 hat5)
    have hrec := records_any Q5 M c5 nl w5 (Rd.of_own Hown5.out).any (own_le Hown5.out) (by obtain ⟨A', c', e1, _, e3⟩ := own_form Hown5.out; injection e1 with _ _ e1; omega) (by omega)
    unfold RecPost at hrec
    rw [Hcut.out] at hrec
    have Hrec := Lib.hid hrec
    clear hrec
    refine Hrec.out.mono ?_
    rintro e w6 ⟨hb6, ⟨-, rfl⟩ | ⟨h, -⟩⟩
    · have hb := (Hb4.out.trans (Hb5.out.mono Hb4.out.size))
      have hb' := hb.trans (hb6.mono hb.size)
      have Hb6 := Lib.hid hb'
      have hn6' : Calls Tryd.prog 12 #[.iface 58 (.int .i64 14)] w6 fun e w' => e = .returned (.int .i64 14) ∧ Below w6.heap.size w6 w' := Hnum.out 14 w6 hb'
      have Hn6 := Lib.hid hn6'
      clear hb hb' hb6 hn6' Hrec
      go_wp2_with fail
      refine Hn6.out.mono ?_
      rintro e w7 ⟨rfl, hb7⟩
      have hb := Hb6.out.trans (hb7.mono Hb6.out.size)
      have Hb7 := Lib.hid hb
      clear hb hb7
      go_wp2_with fail
      refine (Hsure.out _).mono ?_
      rintro e w8 ⟨rfl, hb8⟩
      go_wp2_with fail
      go_ret
      exact ⟨rfl, Hb7.out.trans (hb8.mono Hb7.out.size)⟩
    · cases h
  · rw [show ((1 : Int).toNat) = 1 from rfl, Int.toNat_natCast] at hhalt htd
    rw [Hl4.out] at hhalt htd
    have Hb4 := Lib.hid (Hb3.out.trans (hb4.mono Hb3.out.size))
    have hcut := recs_cut (l := b) (a := 1) (s := M) (by rw [Hbl.out]; omega)
    rw [hhalt] at hcut
    obtain ⟨nl, hnl⟩ : ∃ nl, nl = cutAt b 1 M := ⟨_, rfl⟩
    have hrun := run_slice_lohi (P := Tryd.prog) 22 Tryd.underlying22 (size := 1) (by kernel_rfl) A n c
    obtain ⟨ad, had⟩ : ∃ ad, ad = (if c = 1 then A else A.map (·.add (1 * 1))) := ⟨_, rfl⟩
    have hsl : ∀ W : World, (Instr.sliceAt 22 (.slice A n c) (some (.int .i64 1)) (some (.int .i64 ((n : Int) - 1))) none).run Tryd.prog W = .ok (.slice ad M (c - 1)) W := by
      intro W
      have := hrun W 1 (1 + M) (by omega) (by omega)
      rw [← had] at this
      rw [show 1 + M - 1 = M by omega] at this
      rw [show ((n : Int) - 1) = ((1 + M : Nat) : Int) by omega]
      exact this
    have hrd := Hr.out.bsub (i := 1) (k := M) (m := c) (by omega) (by omega)
    have e1 : (if c = 1 then A else A.map (·.add 1)) = ad := by rw [had, Nat.mul_one]
    rw [e1, show (b.drop 1).take M = nl by rw [hnl]; rfl] at hrd
    rw [← hnl] at hcut
    have hrd4 : Rd w4 T 1 ad M (bs nl) := hrd.below Hb4.out
    have Hcut := Lib.hid hcut
    have Hnl := Lib.hid hnl
    have Hrd4 := Lib.hid hrd4
    have hM6 : M ≤ 600 := by omega
    have HMn2 := Lib.hid hMn
    clear hrun had hrd e1 hcut hrd4 hnl hMn ho hng
    have Hb4s := Lib.hid hb4
    have Htd := Lib.hid htd
    have Htw := Lib.hid htw
    clear hhalt hb4 Hop htd htw hmap
    go_wp2_with (at_builtin; go_must (refine wpList_append_any _ Tryd.underlying22 u8_elem rfl (by omega) rfl rfl rfl (own_nil _ w4.heap.size 5 1 0 rfl) rfl Hrd4.out (bs_one _) (by omega) (Nat.le_refl _) (Nat.zero_add _) (List.nil_append _) ?_); intro Q5 c5 w5 hown5 hg5 hat5; have hb5 : Below w4.heap.size w4 w5 := (Below.refl _ _).grown hg5 (Nat.le_refl _) (by simp); have Hb5 := Lib.hid hb5; have Hown5 := Lib.hid hown5; clear hb5 hown5 hg5 hat5)
    have hrec := records_any Q5 M c5 nl w5 (Rd.of_own Hown5.out).any (own_le Hown5.out) (by obtain ⟨A', c', e1, _, e3⟩ := own_form Hown5.out; injection e1 with _ _ e1; omega) (by omega)
    unfold RecPost at hrec
    rw [Hcut.out] at hrec
    have Hrec := Lib.hid hrec
    clear hrec
    refine Hrec.out.mono ?_
    rintro e w6 ⟨hb6, ⟨h, -⟩ | ⟨-, A6, m6, c6, rows6, rfl, -, -, hm6⟩⟩
    · cases h
    dsimp only at hm6 ⊢
    have hle := recs_le b 1 (1 + M)
    have hM5 : 5 ≤ M := by have := HMn2.out; omega
    obtain ⟨E, hE⟩ : ∃ E, E = (recs b 1 (1 + M)).2.1 - 1 := ⟨_, rfl⟩
    rw [← hE]
    have hrm := RunM.start Hb3.out HL3.out Hb4s.out Htw.out Htd.out Hb5.out Hown5.out
    have hrp : RunP b n M ⟨1 + M, 1, (recs b 1 (1 + M)).2.1, (recs b 1 (1 + M)).1.length, 0⟩ D2 E m6 nl := by
      refine ⟨Hl3.out, Hl5.out, rfl, rfl, rfl, ?_, hm6.symm, ?_, by rw [Hl4.out], by rw [Hl4.out], HMn2.out⟩
      · show (recs b 1 (1 + M)).2.1 = 1 + E
        have := hle.1
        omega
      · rw [Hl4.out]; exact Hnl.out
    have hEM : E ≤ M := by
      have := hle.2.1 (by omega)
      omega
    have hm6k : m6 ≤ 1000 := by
      have h1 := hle.2.2
      have h2 := hle.2.1 (by omega)
      omega
    have hrm6 := hrm.below hb6
    obtain ⟨t0, ht0⟩ : ∃ t0, t0 = (⟨1 + M, 1, (recs b 1 (1 + M)).2.1, (recs b 1 (1 + M)).1.length, 0⟩ : Tp) := ⟨_, rfl⟩
    rw [← ht0] at hrm6 hrp
    have hn6' : Calls Tryd.prog 12 #[.nilIface] w6 fun e w' => e = .returned (.int .i64 0) ∧ Below w6.heap.size w6 w' := Hnum.out 0 w6 hrm6.be
    have Hn6 := Lib.hid hn6'
    have Hrm6 := Lib.hid hrm6
    have Hrp6 := Lib.hid hrp
    clear hle hE hrm hrp hrm6 ht0 hn6' hb6 hm6 Hrec Hb4s Htd Htw Hown5 Hb5 Hrd4 Hcut hsl
    go_wp2_with fail
    refine Hn6.out.mono ?_
    rintro e w7 ⟨rfl, hb7⟩
    have hrm7 := Hrm6.out.below hb7
    have Hrm7 := Lib.hid hrm7
    clear hb7 hrm7 Hrm6 Hn6
    go_wp2_with fail
    obtain ⟨P, hP⟩ : ∃ P, P = M + 1 := ⟨_, rfl⟩
    have hnP : (n : Int) - 1 = (P : Int) := by have := HMn2.out; omega
    simp only [hnP]
    have HnP := Lib.hid hnP
    have HP := Lib.hid hP
    clear hnP hP
    go_loopg [13, 15, 17, 18] 20 (fun m s13 s15 s17 s18 wr => ∃ i Q cq E k t D L nl, m = 20 - i ∧ i ≤ 20 ∧ k ≤ 1000 + i ∧ E ≤ M ∧ s13 = .slice Q M cq ∧ s15 = .int .i64 (E : Nat) ∧ s17 = .int .i64 (k : Nat) ∧ s18 = .int .i64 (i : Nat) ∧ RunP b n M t D E k nl ∧ RunM w n g tg t D L Q M cq nl wr)
    case atStart => exact ⟨0, Q5, c5, E, m6, t0, D2, L3, nl, by omega, by omega, by omega, hEM, rfl, rfl, rfl, rfl, Hrp6.out, Hrm7.out⟩
    case round =>
      obtain ⟨i, Q, cq, E, k, t, D, L4, nl, hm, hi, hki, hEM, rfl, rfl, rfl, rfl, hrp, hrm⟩ := hrel
      have Hm := Lib.hid hm
      have Hrp := Lib.hid hrp
      have Hrm := Lib.hid hrm
      clear hm hrp hrm Hrm7 Hrp6 Hnl
      obtain ⟨wq, rfl⟩ : ∃ wq, wq = wr := ⟨_, rfl⟩
      go_upto_region 19 with (fail)
      go_cut [115] (fun s115 W => s115 = .bool (decide (i < ln ∧ i < 20)) ∧ W = wq)
      case first =>
        by_cases h1 : i < ln
        · have h1I : (i : Int) < ln := by omega
          by_cases h2 : i < 20
          · have h2I : (i : Int) < 20 := by omega
            go_wp2_with fail
            go_meet
            case rel => exact ⟨by simp [h1, h2], rfl⟩
          · have h2d : decide ((i : Int) < 20) = false := by simp; omega
            go_wp2_with fail
            go_meet
            case rel => exact ⟨by simp [h1, h2], rfl⟩
        · have h1d : decide ((i : Int) < ln) = false := by simp; omega
          go_wp2_with fail
          go_meet
          case rel => exact ⟨by simp [h1], rfl⟩
      case rest =>
      obtain ⟨rfl, rfl⟩ := hcut
      by_cases hlt : i < ln ∧ i < 20
      · have hd115 : decide (i < ln ∧ i < 20) = true := by simp [hlt]
        rw [hd115]
        obtain ⟨hin, hi20⟩ := hlt
        obtain ⟨bb, o, y, rfl, _, hbl, hy, q0w⟩ := br_cells Hl.out.1 hin
        have hcl : ∀ W, Below w.heap.size w W → W.cell? ⟨bb, o + i, none⟩ = some (.slice y.A y.n y.m) := fun W hb => (hb.cell (p := ⟨bb, o + i, none⟩) hbl).trans q0w
        have q0 := hcl _ Hrm.out.be
        have Hcl := Lib.hid hcl
        have hinI : (i : Int) < ln := by omega
        have h0i : (0 : Int) ≤ i := by omega
        have hyd := Hl.out.2 y (List.mem_of_getElem? hy)
        have hym := Hlm.out y (List.mem_of_getElem? hy)
        have hylen := hyd.blen
        have Hyd := Lib.hid hyd
        have hymx : y.n ≤ 9223372036854775807 := by have := hym.2; unfold maxLen at this; omega
        clear hyd hy hcl q0w
        by_cases hlong : 1000 < y.n
        · have hlI : (1000 : Int) < y.n := by omega
          clear hylen hym
          go_wp2_with fail
          go_roundg (20 - (i + 1))
          case measure => have := Hm.out; omega
          case rel => exact ⟨i + 1, Q, cq, E, k, t, D, L4, nl, rfl, by omega, by omega, hEM, rfl, rfl, rfl, by go_num, Hrp.out, Hrm.out⟩
        have hlI : decide ((1000 : Int) < (y.n : Int)) = false := by simp; omega
        have hy1 : y.n ≤ 1000 := by omega
        have Hylen := Lib.hid hylen
        clear hylen hym
        go_upto_region 22 with (fail)
        go_cut [133] (fun s133 W => ∃ rb, s133 = .bool rb ∧ W = wc)
        case first =>
          by_cases hrn : i < rn
          · have hrnI : (i : Int) < rn := by omega
            obtain ⟨rb, ro, x, rfl, -, q1w⟩ := bool_cells (Hrl.out.below Hrm.out.be) hrn
            go_wp2_with fail
            go_meet
            case rel => exact ⟨x, rfl, rfl⟩
          · have hrnI : decide ((i : Int) < (rn : Int)) = false := by simp; omega
            go_wp2_with fail
            go_meet
            case rel => exact ⟨false, rfl, rfl⟩
        case rest =>
          obtain ⟨rb, rfl, rfl⟩ := hcut
          go_upto_if 133 with (fail)
          go_cut [15, 17] (fun s15 s17 W => ∃ E k t D L nl, k ≤ 1000 + i ∧ E ≤ M ∧ s15 = .int .i64 (E : Nat) ∧ s17 = .int .i64 (k : Nat) ∧ RunP b n M t D E k nl ∧ RunM w n g tg t D L Q M cq nl W)
          case first =>
            cases rb with
            | false =>
              go_wp2_with fail
              go_meet
              case rel => exact ⟨E, k, t, D, L4, nl, by omega, hEM, rfl, rfl, Hrp.out, Hrm.out⟩
            | true =>
              obtain ⟨t', D', e1, hrp2⟩ := Hrp.out.reset (by omega)
              have hre := reset_any wc Hrm.out.td (by rw [Hrp.out.calm.q]; exact Nat.zero_le _)
              unfold TAPost at hre
              rw [e1] at hre
              dsimp only at hre
              rw [errD_nil] at hre
              have Hre := Lib.hid hre
              have Hrp2 := Lib.hid hrp2
              clear hre e1 hrp2
              go_wp2_with fail
              refine Hre.out.mono ?_
              rintro e w8 ⟨rfl, haft⟩
              obtain ⟨L5, hrm8⟩ := Hrm.out.aft haft
              obtain ⟨bq, rfl, -, -, hqc⟩ := own_five hrm8.own (by omega)
              have q8 := hqc 0 (by omega)
              have f8 := hrm8.own.frozenAt 0
              have hM0 : (0 : Int) < M := by omega
              have hput := hrm8.put 0 0
              have Hput := Lib.hid hput
              clear haft hrm8 hqc hput Hre
              go_wp2_with fail
              go_meet
              case rel => exact ⟨0, 0, t', D', L5, nl.set 0 0, Nat.zero_le _, Nat.zero_le _, rfl, rfl, Hrp2.out, Hput.out⟩
          case rest =>
            obtain ⟨E2, k2, t2, D2', L6, nl2, hk2, hE2, rfl, rfl, hrp2, hrm2⟩ := hcut
            have hcl2 := Hcl.out _ hrm2.be
            have hap := append_any y.A y.n y.m y.d wc hrm2.td (Hyd.out.below hrm2.be) (by unfold maxLen; omega) (by rw [hrp2.calm.q]; exact Nat.zero_le _)
            unfold TAPost at hap
            have Hrp2 := Lib.hid hrp2
            have Hrm2 := Lib.hid hrm2
            by_cases hfit : E2 + 5 + y.n ≤ M
            · obtain ⟨t', D', e1, hrp3⟩ := hrp2.fits (x := y.d) hrm2.td.ok (by rw [Hylen.out]; exact hy1) (by rw [Hylen.out]; exact hfit)
              rw [e1] at hap
              dsimp only at hap
              rw [errD_nil] at hap
              have Hap := Lib.hid hap
              have Hrp3 := Lib.hid hrp3
              clear hap e1 hrp3 hrp2 hrm2 Hrp Hrm
              go_wp2_with fail
              refine Hap.out.mono ?_
              rintro e w9 ⟨rfl, haft⟩
              obtain ⟨L7, hrm9⟩ := Hrm2.out.aft haft
              have q9 := Hcl.out _ hrm9.be
              have ha4 := append4_any Q M cq nl2 E2 y.A y.n y.m y.d w9 (Rd.of_own hrm9.own).any (own_le hrm9.own) (by obtain ⟨A', c', e1, _, e3⟩ := own_form hrm9.own; injection e1 with _ _ e1; omega) (by omega) hE2 (Hyd.out.below hrm9.be) (by unfold maxLen; omega)
              have Ha4 := Lib.hid ha4
              have Hrm9 := Lib.hid hrm9
              clear haft hrm9 ha4 Hap hcl2
              go_wp2_with fail
              refine Ha4.out.mono ?_
              rintro e w10 ⟨hb10, ⟨h, -⟩ | ⟨-, h, -⟩ | ⟨-, -, Q3, c3, rfl, hown3⟩⟩
              · rw [Hylen.out] at h; omega
              · rw [Hylen.out] at h
                unfold roomL at h
                split at h <;> omega
              have hrm10 := Hrm9.out.new hb10 hown3
              have q10 := Hcl.out _ hrm10.be
              have hn10 : Calls Tryd.prog 12 #[.nilIface] w10 fun e w' => e = .returned (.int .i64 0) ∧ Below w10.heap.size w10 w' := Hnum.out 0 w10 hrm10.be
              have Hn10 := Lib.hid hn10
              have Hrm10 := Lib.hid hrm10
              clear hb10 hown3 hrm10 hn10 Ha4 q9
              go_wp2_with fail
              refine Hn10.out.mono ?_
              rintro e w11 ⟨rfl, hb11⟩
              have hrm11 := Hrm10.out.below hb11
              have q11 := Hcl.out _ hrm11.be
              have Hrm11 := Lib.hid hrm11
              clear hb11 hrm11 Hn10 q10
              have hE2s : E2 ≤ 600 := by omega
              have hk2s : k2 ≤ 1020 := by omega
              go_upto_region 31 with (fail)
              go_cut [13, 15, 17] (fun s13 s15 s17 W => s13 = .slice Q3 M c3 ∧ s15 = .int .i64 ((E2 + 5 + y.n : Nat) : Int) ∧ s17 = .int .i64 ((k2 + 1 : Nat) : Int) ∧ ∃ j, W = w11.drewN j)
              case first =>
                go_quiet (fail)
                go_wp2_with fail
                go_meet
                case rel => exact ⟨rfl, by congr 1, by congr 1, _, rfl⟩
              case rest =>
                obtain ⟨rfl, rfl, rfl, j12, rfl⟩ := hcut
                have hrm12 := Hrm11.out.below (w2 := w11.drewN j12) ⟨rfl, rfl, rfl, Nat.le_refl _, fun _ _ => rfl⟩
                have hrp12 := Hrp3.out
                rw [Hylen.out] at hrp12
                obtain ⟨E9, hE9⟩ : ∃ E9, E9 = E2 + 5 + y.n := ⟨_, rfl⟩
                obtain ⟨k9, hk9⟩ : ∃ k9, k9 = k2 + 1 := ⟨_, rfl⟩
                rw [← hE9, ← hk9] at hrp12 ⊢
                obtain ⟨nl9, hnl9⟩ : ∃ nl9, nl9 = splice nl2 E2 (1 :: outL E2 M y.d) := ⟨_, rfl⟩
                rw [← hnl9] at hrp12 hrm12
                obtain ⟨W9, hW9⟩ : ∃ W9, W9 = w11.drewN j12 := ⟨_, rfl⟩
                rw [← hW9] at hrm12 ⊢
                have hE9M : E9 ≤ M := by omega
                have hk9i : k9 ≤ 1000 + (i + 1) := by omega
                have Hrp9 := Lib.hid hrp12
                have HrmZ := Lib.hid hrm12
                clear hrm12 hrp12 hE9 hk9 hnl9 hW9 Hrm11 Hrp3 q11 Hrm10 Hrm9 hfit Hrp2 Hrm2
                have Hrm9 := Lib.hid HrmZ.out
                clear HrmZ
                have hrd := read_all W9 Hrm9.out.td.dx Hrp9.out.calm (by omega)
                have Hrd := Lib.hid hrd
                clear hrd
                go_wp2_with fail
                refine Hrd.out.mono ?_
                rintro e w13 ⟨A13, c13, rfl, hown13, hb13⟩
                obtain ⟨ab, rfl, -, hc13, hac⟩ := own_five hown13 (by omega)
                have hrm13 := Hrm9.out.below hb13
                have hP := HP.out
                have hMn3 := HMn2.out
                have hnP := HnP.out
                have hPn : P < n := by omega
                obtain ⟨b0, o0, rfl, -, hblt, hbc⟩ := Hr.out.plain (by omega) (by omega)
                have hbcell : ∀ j, j < n → ∀ W, Below w.heap.size w W → W.cell? ⟨b0, o0 + j, none⟩ = some (.int .u8 ((b.getD j 0).toNat : Int)) := fun j hj W hb => (hb.cell (p := ⟨b0, o0 + j, none⟩) hblt).trans (hbc j _ (by rw [bs_get b j (by rw [Hbl.out]; exact hj), List.getD_eq_getElem?_getD, List.getElem?_eq_getElem (by rw [Hbl.out]; exact hj)]; rfl))
                have z0 := hbcell 0 (by omega) w13 hrm13.be
                have z1 := hbcell P hPn w13 hrm13.be
                have y0 := hac 0 (by omega)
                have y1 := hac P hPn
                have g0 : D'.now.getD 0 0 = b.getD 0 0 := by rw [getD_get, getD_get, Hrp9.out.b0]
                have g1 : D'.now.getD P 0 = b.getD P 0 := by
                  have := Hrp9.out.b1
                  rw [show n - 1 = P by omega] at this
                  rw [getD_get, getD_get, this]
                rw [g0] at y0
                rw [g1] at y1
                obtain ⟨v0, hv0⟩ : ∃ v0, v0 = (b.getD 0 0).toNat := ⟨_, rfl⟩
                obtain ⟨v1, hv1⟩ : ∃ v1, v1 = (b.getD P 0).toNat := ⟨_, rfl⟩
                rw [← hv0] at z0 y0
                rw [← hv1] at z1 y1
                rw [Nat.add_zero] at z0
                have hnl9 : (D'.now.drop 1).take M = nl9 := by rw [Hrp9.out.img]; rfl
                have hsub := (Rd.of_own hown13).bsub (i := 1) (k := M) (m := c13) (by omega) (by omega)
                rw [if_neg (by omega), hnl9] at hsub
                have hslA : ∀ W : World, (Instr.sliceAt 22 (.slice (some ⟨ab, 0, none⟩) n c13) (some (.int .i64 1)) (some (.int .i64 (P : Nat))) none).run Tryd.prog W = .ok (.slice (some ⟨ab, 1, none⟩) M (c13 - 1)) W := by
                  intro W
                  have := run_slice_lohi (P := Tryd.prog) 22 Tryd.underlying22 (size := 1) (by kernel_rfl) (some ⟨ab, 0, none⟩) n c13 W 1 P (by omega) (by omega)
                  rw [if_neg (by omega), show P - 1 = M by omega] at this
                  exact this
                have hcvA := fun j => conv_bytes (P := Tryd.prog) (c := c13 - 1) 22 9 5 Tryd.underlying22 Tryd.underlying5 Tryd.underlying9 (show Rd (w13.drewN j) _ 1 (some ⟨ab, 1, none⟩) M (bs nl9) from hsub.drewN j)
                have hcvN := fun j => conv_bytes (P := Tryd.prog) (c := c3) 22 9 5 Tryd.underlying22 Tryd.underlying5 Tryd.underlying9 ((Rd.of_own hrm13.own).drewN j)
                have hln := fun j => len_any (w13.drewN j) (hrm13.td.drewN j)
                have hro := fun j => room_any (w13.drewN j) (hrm13.td.drewN j)
                have hr4 := fun j => room4_any M E9 (by omega) (by omega) (w13.drewN j)
                rw [Hrp9.out.tn] at hln
                rw [Hrp9.out.room] at hro
                obtain ⟨RR, hRR⟩ : ∃ RR, RR = roomL M E9 := ⟨_, rfl⟩
                rw [← hRR] at hro hr4
                have hP0 : (0 : Int) ≤ P := by omega
                have hPI : (P : Int) < n := by omega
                have hn0I : (0 : Int) < n := by omega
                have Hln := Lib.hid hln
                have Hro := Lib.hid hro
                have Hr4 := Lib.hid hr4
                have Hrm13 := Lib.hid hrm13
                clear hln hro hr4 hrm13 hRR hbcell hbc hac hown13 hb13 hv0 hv1 g0 g1 hnl9 hsub hMn3 hP Hrd
                go_upto_region 33 with (fail)
                go_cut [237] (fun s237 W => s237 = .bool false ∧ ∃ j, W = w13.drewN j)
                case first =>
                  as_aux_lemma =>
                    go_quiet (first | (go_at_call 15; exact Calls.quiet_of_same (Hln.out _)) | (go_at_call 16; exact Calls.quiet_of (Hro.out _)) | (go_at_call 17; exact Calls.quiet_of_same (Hr4.out _)))
                    go_wp2_with fail
                    go_meet
                    case rel => exact ⟨rfl, _, rfl⟩
                case rest =>
                  obtain ⟨rfl, j14, rfl⟩ := hcut
                  have hrm14 := Hrm13.out.below (w2 := w13.drewN j14) ⟨rfl, rfl, rfl, Nat.le_refl _, fun _ _ => rfl⟩
                  have Hrm14 := Lib.hid hrm14
                  clear hrm14 hcvA hcvN hslA z0 z1 y0 y1
                  go_wp2_with fail
                  go_roundg (20 - (i + 1))
                  case measure => have := Hm.out; omega
                  case rel => exact ⟨i + 1, Q3, c3, E9, k9, t', D', L7, nl9, rfl, by omega, by omega, by omega, rfl, rfl, rfl, by go_num, Hrp9.out, Hrm14.out⟩
            · have e1 := hrp2.full (x := y.d) (by rw [Hylen.out]; exact hy1) (by rw [Hylen.out]; exact hfit)
              rw [e1] at hap
              dsimp only at hap
              rw [errD_ne (by decide)] at hap
              have Hap := Lib.hid hap
              clear hap e1 hrp2 hrm2 Hrp Hrm
              go_wp2_with fail
              refine Hap.out.mono ?_
              rintro e w9 ⟨rfl, haft⟩
              obtain ⟨L7, hrm9⟩ := Hrm2.out.aft haft
              have q9 := Hcl.out _ hrm9.be
              have ha4 := append4_any Q M cq nl2 E2 y.A y.n y.m y.d w9 (Rd.of_own hrm9.own).any (own_le hrm9.own) (by obtain ⟨A', c', e1, _, e3⟩ := own_form hrm9.own; injection e1 with _ _ e1; omega) (by omega) hE2 (Hyd.out.below hrm9.be) (by unfold maxLen; omega)
              have Ha4 := Lib.hid ha4
              have Hrm8 := Lib.hid hrm9
              clear haft hrm9 ha4 Hap hcl2
              go_wp2_with fail
              refine Ha4.out.mono ?_
              rintro e w10 ⟨hb10, ⟨h, -⟩ | ⟨-, -, rfl⟩ | ⟨-, h, -⟩⟩
              · rw [Hylen.out] at h; omega
              rotate_left
              · rw [Hylen.out] at h
                unfold roomL at h
                split at h <;> omega
              have hrm10 := Hrm8.out.below hb10
              have q10 := Hcl.out _ hrm10.be
              have hn10 : Calls Tryd.prog 12 #[.iface 58 (.int .i64 10)] w10 fun e w' => e = .returned (.int .i64 10) ∧ Below w10.heap.size w10 w' := Hnum.out 10 w10 hrm10.be
              have Hn10 := Lib.hid hn10
              have Hrm10 := Lib.hid hrm10
              clear hb10 hrm10 hn10 Ha4 q9
              go_wp2_with fail
              refine Hn10.out.mono ?_
              rintro e w11 ⟨rfl, hb11⟩
              have hrm11 := Hrm10.out.below hb11
              have Hrm9 := Lib.hid hrm11
              have Hrp9 := Lib.hid Hrp2.out
              clear hb11 hrm11 Hn10 q10 hfit Hrp2 Hrm2 Hrm8 Hrm10
              have hE2s : E2 ≤ 600 := by omega
              have hrd := read_all w11 Hrm9.out.td.dx Hrp9.out.calm (by omega)
              have Hrd := Lib.hid hrd
              clear hrd
              go_wp2_with fail
              refine Hrd.out.mono ?_
              rintro e w13 ⟨A13, c13, rfl, hown13, hb13⟩
              obtain ⟨ab, rfl, -, hc13, hac⟩ := own_five hown13 (by omega)
              have hrm13 := Hrm9.out.below hb13
              have hP := HP.out
              have hMn3 := HMn2.out
              have hnP := HnP.out
              have hPn : P < n := by omega
              obtain ⟨b0, o0, rfl, -, hblt, hbc⟩ := Hr.out.plain (by omega) (by omega)
              have hbcell : ∀ j, j < n → ∀ W, Below w.heap.size w W → W.cell? ⟨b0, o0 + j, none⟩ = some (.int .u8 ((b.getD j 0).toNat : Int)) := fun j hj W hb => (hb.cell (p := ⟨b0, o0 + j, none⟩) hblt).trans (hbc j _ (by rw [bs_get b j (by rw [Hbl.out]; exact hj), List.getD_eq_getElem?_getD, List.getElem?_eq_getElem (by rw [Hbl.out]; exact hj)]; rfl))
              have z0 := hbcell 0 (by omega) w13 hrm13.be
              have z1 := hbcell P hPn w13 hrm13.be
              have y0 := hac 0 (by omega)
              have y1 := hac P hPn
              have g0 : D2'.now.getD 0 0 = b.getD 0 0 := by rw [getD_get, getD_get, Hrp9.out.b0]
              have g1 : D2'.now.getD P 0 = b.getD P 0 := by
                have := Hrp9.out.b1
                rw [show n - 1 = P by omega] at this
                rw [getD_get, getD_get, this]
              rw [g0] at y0
              rw [g1] at y1
              obtain ⟨v0, hv0⟩ : ∃ v0, v0 = (b.getD 0 0).toNat := ⟨_, rfl⟩
              obtain ⟨v1, hv1⟩ : ∃ v1, v1 = (b.getD P 0).toNat := ⟨_, rfl⟩
              rw [← hv0] at z0 y0
              rw [← hv1] at z1 y1
              rw [Nat.add_zero] at z0
              have hnl9 : (D2'.now.drop 1).take M = nl2 := by rw [Hrp9.out.img]; rfl
              have hsub := (Rd.of_own hown13).bsub (i := 1) (k := M) (m := c13) (by omega) (by omega)
              rw [if_neg (by omega), hnl9] at hsub
              have hslA : ∀ W : World, (Instr.sliceAt 22 (.slice (some ⟨ab, 0, none⟩) n c13) (some (.int .i64 1)) (some (.int .i64 (P : Nat))) none).run Tryd.prog W = .ok (.slice (some ⟨ab, 1, none⟩) M (c13 - 1)) W := by
                intro W
                have := run_slice_lohi (P := Tryd.prog) 22 Tryd.underlying22 (size := 1) (by kernel_rfl) (some ⟨ab, 0, none⟩) n c13 W 1 P (by omega) (by omega)
                rw [if_neg (by omega), show P - 1 = M by omega] at this
                exact this
              have hcvA := fun j => conv_bytes (P := Tryd.prog) (c := c13 - 1) 22 9 5 Tryd.underlying22 Tryd.underlying5 Tryd.underlying9 (show Rd (w13.drewN j) _ 1 (some ⟨ab, 1, none⟩) M (bs nl2) from hsub.drewN j)
              have hcvN := fun j => conv_bytes (P := Tryd.prog) (c := cq) 22 9 5 Tryd.underlying22 Tryd.underlying5 Tryd.underlying9 ((Rd.of_own hrm13.own).drewN j)
              have hln := fun j => len_any (w13.drewN j) (hrm13.td.drewN j)
              have hro := fun j => room_any (w13.drewN j) (hrm13.td.drewN j)
              have hr4 := fun j => room4_any M E2 (by omega) (by omega) (w13.drewN j)
              rw [Hrp9.out.tn] at hln
              rw [Hrp9.out.room] at hro
              obtain ⟨RR, hRR⟩ : ∃ RR, RR = roomL M E2 := ⟨_, rfl⟩
              rw [← hRR] at hro hr4
              have hP0 : (0 : Int) ≤ P := by omega
              have hPI : (P : Int) < n := by omega
              have hn0I : (0 : Int) < n := by omega
              have Hln := Lib.hid hln
              have Hro := Lib.hid hro
              have Hr4 := Lib.hid hr4
              have Hrm13 := Lib.hid hrm13
              clear hln hro hr4 hrm13 hRR hbcell hbc hac hown13 hb13 hv0 hv1 g0 g1 hnl9 hsub hMn3 hP Hrd
              go_upto_region 33 with (fail)
              go_cut [237] (fun s237 W => s237 = .bool false ∧ ∃ j, W = w13.drewN j)
              case first =>
                as_aux_lemma =>
                  go_quiet (first | (go_at_call 15; exact Calls.quiet_of_same (Hln.out _)) | (go_at_call 16; exact Calls.quiet_of (Hro.out _)) | (go_at_call 17; exact Calls.quiet_of_same (Hr4.out _)))
                  go_wp2_with fail
                  go_meet
                  case rel => exact ⟨rfl, _, rfl⟩
              case rest =>
                obtain ⟨rfl, j14, rfl⟩ := hcut
                have hrm14 := Hrm13.out.below (w2 := w13.drewN j14) ⟨rfl, rfl, rfl, Nat.le_refl _, fun _ _ => rfl⟩
                have Hrm14 := Lib.hid hrm14
                clear hrm14 hcvA hcvN hslA z0 z1 y0 y1
                go_wp2_with fail
                go_roundg (20 - (i + 1))
                case measure => have := Hm.out; omega
                case rel => exact ⟨i + 1, Q, cq, E2, k2, t2, D2', L7, nl2, rfl, by omega, by omega, by omega, rfl, rfl, rfl, by go_num, Hrp9.out, Hrm14.out⟩
      · have hd115 : decide (i < ln ∧ i < 20) = false := by simp only [hlt]; rfl
        rw [hd115]
        clear hlt Hm
        go_wp2_with fail
        refine (Hsure.out _).mono ?_
        rintro e w8 ⟨rfl, hb8⟩
        go_wp2_with fail
        go_ret
        exact ⟨rfl, Hrm.out.be.trans (hb8.mono Hrm.out.be.size)⟩
end Go.Proofs.YtijgkejknijplaaDoor
