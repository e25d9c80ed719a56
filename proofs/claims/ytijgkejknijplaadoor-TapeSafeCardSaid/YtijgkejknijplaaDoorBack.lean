/- The law TapeBack, walked. -/
import Derived.Test.YtijgkejknijplaaDoorBackI
import Derived.Test.YtijgkejknijplaaDoorArith
import Derived.Test.YtijgkejknijplaaDoorOpens
import Derived.StillTailTactics
namespace Go.Proofs.YtijgkejknijplaaDoor
open Go.RowKit
set_option maxRecDepth 100000
set_option linter.unusedVariables false
set_option linter.unusedSimpArgs false
theorem rec_zero (n : Nat) : recs (Dk.make n).now 0 n = ([], 0, false) := recs_end (by
  unfold mkAt
  rw [getD_get]
  show ((List.replicate n (0 : UInt8))[0]?).getD 0 = 0
  rw [List.getElem?_replicate]
  split <;> rfl)
/-- Behind Open on a disk of noughts. -/
theorem BackI.start {w w1 w2 : World} {L : Nat → Prop} {g tg n : Nat} (hb1 : Below w.heap.size w w1) (hL : ∀ b, L b → w.heap.size ≤ b) (htw : w1.heap.size ≤ tg) (htd : TDX w2 L tg g ⟨n, 0, 0, 0, 0⟩ (Dk.make n) n) (hb2 : Below w1.heap.size w1 w2) : BackI w n 0 n g tg ⟨n, 0, 0, 0, 0⟩ (Dk.make n) L none 0 0 [] w2 :=
  ⟨htd, make_calm n, rfl, rfl, rfl, rec_zero n, rfl, own_nil _ _ _ _ _ rfl, (fun b hb => by cases hb), (fun x hx => (List.not_mem_nil hx).elim), hL, Nat.le_trans hb1.size htw, hb1.trans (hb2.mono hb1.size)⟩
set_option maxHeartbeats 12800000 in
theorem back_walk (A : Option Addr) (n c : Nat) (l : List Br) (sz : Int) (w : World) (hr : BRT w A n l) (hlm : ∀ x ∈ l, x.n ≤ x.m ∧ x.m ≤ maxLen) (hg : ErrT w) :
    Calls Tryd.prog 4 #[.slice A n c, .int .i64 sz] w (YesPost w) := by
  obtain ⟨K, hK, -, hK1, hK2⟩ := uint_mod sz 300 300 rfl (by omega) (by omega)
  have hsure := fun W => sure_any W
  have Hsure := Lib.hid hsure
  have Hg := Lib.hid hg
  have Hr := Lib.hid hr
  have Hlm := Lib.hid hlm
  have hw0 := hg.lt
  have hnum : ∀ k W, Below w.heap.size w W → Calls Tryd.prog 12 #[errD k] W fun e w' => e = .returned (.int .i64 k) ∧ Below W.heap.size W w' := fun k W hb => num_any k W (Hg.out.under hb hw0)
  have Hnum := Lib.hid hnum
  obtain ⟨N, hN⟩ : ∃ N, N = 5 + K := ⟨_, rfl⟩
  have hnew := new_any N (by omega) (by omega) w
  have hNI : (5 : Int) + (K : Int) = (N : Int) := by omega
  have hN5 : 5 ≤ N := by omega
  have hN3 : N ≤ 304 := by omega
  have hng : ¬ BadArea N 0 N := by unfold BadArea; omega
  have Hng := Lib.hid hng
  have HNI := Lib.hid hNI
  clear hsure hg hr hlm hnum hN hng hNI
  go_enter Tryd.func4, Tryd.ntmps4
  go_wp2_with fail
  rw [HNI.out]
  refine hnew.mono ?_
  rintro e w1 ⟨L, g, rfl, hdx, hL, hb1⟩
  have hop := open_any 0 (N : Nat) w1 hdx (by unfold I64; omega) (by unfold I64; omega)
  have Hop := Lib.hid hop
  have HL := Lib.hid hL
  have Hb1 := Lib.hid hb1
  clear hop hdx hL hb1 hnew
  go_wp2_with fail
  refine Hop.out.mono ?_
  rintro e w2 ⟨hb2, ⟨h, -⟩ | ⟨-, h, -⟩ | ⟨-, -, h, -⟩ | ⟨-, -, -, tg, A2, m2, c2, rows2, rfl, htw, htd, hbr, hmap, -⟩⟩
  · exact absurd h Hng.out
  · cases h
  · exact absurd h (by rw [show ((0 : Int).toNat) = 0 from rfl, Int.toNat_natCast, Nat.zero_add, rec_zero]; decide)
  rw [show ((0 : Int).toNat) = 0 from rfl, Int.toNat_natCast, Nat.zero_add, rec_zero] at htd hmap
  have hst := BackI.start Hb1.out HL.out htw htd hb2
  have Hst := Lib.hid hst
  clear hst hbr hmap htd htw hb2 Hop
  go_wp2_with fail
  go_loopg [11, 12, 13] 40 (fun m s11 s12 s13 wr => ∃ i Q k c rows t D L, m = 40 - i ∧ i ≤ 40 ∧ k ≤ i ∧ s13 = .int .i64 (i : Nat) ∧ s11 = .slice Q k c ∧ (∃ q, s12 = .int .i64 (q : Nat) ∧ q + t.p = N) ∧ D.armed = 0 ∧ BackI w N 0 N g tg t D L Q k c rows wr)
  case atStart => exact ⟨0, none, 0, 0, [], _, _, _, by omega, by omega, by omega, rfl, rfl, ⟨N, rfl, rfl⟩, rfl, Hst.out⟩
  case round =>
    obtain ⟨i, Q, k, c3, rows, t, D, L2, hm, hi, hki, rfl, rfl, ⟨q, rfl, hq⟩, harm, hp⟩ := hrel
    have Hm := Lib.hid hm
    have Hp := Lib.hid hp
    have Harm := Lib.hid harm
    clear hm hp harm Hst
    obtain ⟨wq, rfl⟩ : ∃ wq, wq = wr := ⟨_, rfl⟩
    go_upto_region 9 with (fail)
    go_cut [54] (fun s54 W => s54 = .bool (decide (i < n ∧ i < 40)) ∧ W = wq)
    case first =>
      by_cases h1 : i < n
      · have h1I : (i : Int) < n := by omega
        by_cases h2 : i < 40
        · have h2I : (i : Int) < 40 := by omega
          go_wp2_with fail
          go_meet
          case rel => exact ⟨by simp [h1, h2], rfl⟩
        · have h2d : decide ((i : Int) < 40) = false := by simp; omega
          go_wp2_with fail
          go_meet
          case rel => exact ⟨by simp [h1, h2], rfl⟩
      · have h1d : decide ((i : Int) < n) = false := by simp; omega
        go_wp2_with fail
        go_meet
        case rel => exact ⟨by simp [h1], rfl⟩
    case rest =>
    obtain ⟨rfl, rfl⟩ := hcut
    by_cases hlt : i < n ∧ i < 40
    · have hd54 : decide (i < n ∧ i < 40) = true := by simp [hlt]
      rw [hd54]
      obtain ⟨hin, hi40⟩ := hlt
      obtain ⟨b, o, y, rfl, _, hbl, hy, q0w⟩ := br_cells Hr.out.1 hin
      have hcl : ∀ W, Below w.heap.size w W → W.cell? ⟨b, o + i, none⟩ = some (.slice y.A y.n y.m) := fun W hb => (hb.cell (p := ⟨b, o + i, none⟩) hbl).trans q0w
      have q0 := hcl _ Hp.out.be
      have Hcl := Lib.hid hcl
      have Hq := Lib.hid hq
      have hinI : (i : Int) < n := by omega
      have h0i : (0 : Int) ≤ i := by omega
      have hyd := Hr.out.2 y (List.mem_of_getElem? hy)
      have hym := Hlm.out y (List.mem_of_getElem? hy)
      have hylen := hyd.blen
      have Hyd := Lib.hid hyd
      have hymx : y.n ≤ 9223372036854775807 := by have := hym.2; unfold maxLen at this; omega
      have hqN : q ≤ 304 := by omega
      clear hyd hy hcl hq q0w
      by_cases hlong : 1000 < y.n
      · have hlI : (1000 : Int) < y.n := by omega
        clear hylen hym
        go_wp2_with fail
        go_roundg (40 - (i + 1))
        case measure => have := Hm.out; omega
        case rel => exact ⟨i + 1, Q, k, c3, rows, t, D, L2, rfl, by omega, by omega, by go_num, rfl, ⟨q, rfl, Hq.out⟩, Harm.out, Hp.out⟩
      have hlI : decide ((1000 : Int) < (y.n : Int)) = false := by simp; omega
      have hy1 : y.n ≤ 1000 := by omega
      have hap := append_any y.A y.n y.m y.d wc Hp.out.td (Hyd.out.below Hp.out.be) (by unfold maxLen; omega) (by rw [Hp.out.calm.q]; exact Nat.zero_le _)
      unfold TAPost at hap
      have hok := Hp.out.td.ok
      have ht1 := Hp.out.t1
      have ht0 := Hp.out.t0
      have hpN : t.p ≤ N := by have := hok.pe; omega
      have hq := Hq.out
      have Hylen := Lib.hid hylen
      have HpN := Lib.hid hpN
      by_cases hfit : t.p + 5 + y.n ≤ N
      · rcases append_cases (b := y.d) Hp.out.calm Hp.out.t2 (by omega) (by rw [ht1, hylen]; exact hfit) hok.ez with ⟨D', e1, k1, k2, k3⟩ | ⟨h, _⟩
        · rw [e1] at hap
          dsimp only at hap
          rw [errD_nil] at hap
          have hput := fun w2 ha => Hp.out.put (w2 := w2) (x := y.d) (by omega) (by rw [ht1, hylen]; exact hfit) k1 k2 ha
          have Hap := Lib.hid hap
          have Hput := Lib.hid hput
          have K3 := Lib.hid (k3 Harm.out)
          have hgI : (5 : Int) + y.n ≤ (q : Int) := by omega
          have Hfit := Lib.hid hfit
          clear hap hput e1 k1 k2 k3 hok ht1 ht0 hpN hfit hylen hym hq
          go_wp2_with fail
          refine Hap.out.mono ?_
          rintro e w2 ⟨rfl, haft⟩
          obtain ⟨L', hS⟩ := Hput.out w2 haft
          have q2 := Hcl.out _ hS.be
          have HS := Lib.hid hS
          clear haft hS Hap Hput q0
          go_upto_region 13 with (fail)
          go_cut [88] (fun s88 W => s88 = .bool false ∧ ∃ j, W = w2.drewN j)
          case first =>
            go_quiet (fail)
            go_wp2_with fail
            go_meet
            case rel => exact ⟨rfl, _, rfl⟩
          case rest =>
            obtain ⟨rfl, j, rfl⟩ := hcut
            have hS2 := HS.out.below (w2 := w2.drewN j) ⟨rfl, rfl, rfl, Nat.le_refl _, fun _ _ => rfl⟩
            have hown := own_below hS2.own ((Below.refl _ _).alloc (Nat.le_refl _) (.cells #[.slice y.A y.n y.m] 22))
            have hlit : Rd ((w2.drewN j).alloc (.cells #[.slice y.A y.n y.m] 22)) (w2.heap.size ≤ ·) 1 (some ⟨w2.heap.size, 0, none⟩) 1 [.slice y.A y.n y.m] := Rd.lit (w := w2.drewN j) (cs := #[.slice y.A y.n y.m]) (t := 22) (fr := (0, 0)) rfl
            have hmore := fun Q' c' w3 => hS2.more (y := y) (w3 := w3) (Q' := Q') (c' := c') (t0 := 22) (((Hyd.out.lt (by omega))).mono fun b hb => hb.2)
            have hbsz := hS2.be.size
            have Hown := Lib.hid hown
            have Hlit := Lib.hid hlit
            have Hmore := Lib.hid hmore
            have hq4 : ∀ W, Below w.heap.size w W → W.cell? ⟨b, o + i, none⟩ = some (.slice y.A y.n y.m) := Hcl.out
            clear hown hlit hmore hS2 hq4
            go_wp2_with (at_builtin; go_must (refine wpList_append_any _ Tryd.underlying32 bb_elem rfl (by omega) rfl rfl rfl Hown.out rfl Hlit.out (by intro u hu; obtain rfl := List.mem_singleton.1 hu; rfl) (by omega) (by simp; exact Nat.le_trans hbsz (Nat.le_succ _)) rfl rfl ?_); intro A3 c5 w4 hown5 hg5 hat5; have hI := Hmore.out A3 c5 w4 hown5 hg5 hat5; have q4 := Hcl.out _ hI.be; have HI := Lib.hid hI; clear hI hown5 hg5 hat5)
            go_roundg (40 - (i + 1))
            case measure => have := Hm.out; omega
            case rel =>
              have h1 := Hfit.out
              have h2 := Hq.out
              have h3 := Hylen.out
              refine ⟨i + 1, A3, k + 1, c5, _, _, D', L', rfl, by omega, by omega, by go_num, rfl, ⟨q - 5 - y.n, ?_, ?_⟩, K3.out, HI.out⟩
              · congr 1
                omega
              · dsimp only
                omega
        · exact absurd Harm.out h
      · have e1 := append_full (D := D) (t := t) (b := y.d) Hp.out.t2 (by omega) (by rw [ht1, hylen]; exact hfit)
        rw [e1] at hap
        dsimp only at hap
        rw [errD_ne (by decide)] at hap
        have Hap := Lib.hid hap
        have hgI : decide ((5 : Int) + y.n ≤ (q : Int)) = false := by simp; omega
        clear hap e1 hok ht1 ht0 hpN hfit hylen hym hq
        go_wp2_with fail
        refine Hap.out.mono ?_
        rintro e w2 ⟨rfl, haft⟩
        obtain ⟨L', hS⟩ := Hp.out.same haft
        have q2 := Hcl.out _ hS.be
        have hnm : Calls Tryd.prog 12 #[.iface 58 (.int .i64 10)] w2.drew fun e w' => e = .returned (.int .i64 10) ∧ Below w2.drew.heap.size w2.drew w' := Hnum.out 10 w2.drew hS.be.drew
        have Hnm := Lib.hid hnm
        have HS := Lib.hid hS
        clear haft hS Hap q0 hnm
        go_upto_region 13 with (fail)
        go_cut [88] (fun s88 W => s88 = .bool false ∧ Below w2.heap.size w2 W)
        case first =>
          have q2' : w2.drew.cell? ⟨b, o + i, none⟩ = some (.slice y.A y.n y.m) := q2
          have hw5 : IntKind.i64.wrap ((5 : Int) + (y.n : Int)) = (5 : Int) + (y.n : Int) := i64_wrap_id _ (by omega) (by omega)
          have hlt5 : (q : Int) < (5 : Int) + (y.n : Int) := by simpa using hgI
          go_still_tail 16, (by kernel_rfl)
          change wpList _ _ _ _ _ w2.drew
          go_wp2_with fail
          refine Hnm.out.mono ?_
          rintro e w4 ⟨rfl, hb4⟩
          go_wp2_with fail
          go_meet
          case rel => exact ⟨rfl, below_un (k := 1) hb4⟩
        case rest =>
          obtain ⟨rfl, hb5⟩ := hcut
          have hI := HS.out.below hb5
          have HI := Lib.hid hI
          clear hI hb5
          go_wp2_with fail
          go_roundg (40 - (i + 1))
          case measure => have := Hm.out; omega
          case rel => exact ⟨i + 1, Q, k, c3, rows, t, D, L', rfl, by omega, by omega, by go_num, rfl, ⟨q, rfl, Hq.out⟩, Harm.out, HI.out⟩
    · have hd54 : decide (i < n ∧ i < 40) = false := by simp only [hlt]; rfl
      rw [hd54]
      have hop := open_any 0 (N : Nat) wc Hp.out.td.dx (by unfold I64; omega) (by unfold I64; omega)
      have hrec := Hp.out.rec_
      have hoff := Hp.out.calm.off
      have Hop := Lib.hid hop
      have Hlt := Lib.hid hlt
      clear hop hlt Hm
      go_wp2_with fail
      refine Hop.out.mono ?_
      rintro e w3 ⟨hb3, ⟨h, -⟩ | ⟨-, h, -⟩ | ⟨-, -, h, -⟩ | ⟨-, -, -, tg3, A3, m3, c4, rows3, rfl, htw, htd, hbr, hmap, hmc, hcm⟩⟩
      · exact absurd h Hng.out
      · rw [hoff] at h; cases h
      · rw [show ((0 : Int).toNat) = 0 from rfl, Int.toNat_natCast, Nat.zero_add, hrec] at h
        cases h
      rw [show ((0 : Int).toNat) = 0 from rfl, Int.toNat_natCast, Nat.zero_add, hrec] at htd hmap
      dsimp only at htd hmap
      rw [List.length_map, Hp.out.len] at htd
      have hm3 : m3 = k := by
        have h1 := congrArg List.length hmap
        rw [List.length_map, List.length_map, hbr.len, Hp.out.len] at h1
        exact h1
      subst hm3
      have hbt : BRT w3 A3 m3 rows3 := ⟨hbr.t, fun x hx => (hbr.2 x hx).1.any⟩
      have hbt2 : BRT w3 Q m3 rows := BRT.below ⟨(Rd.of_own Hp.out.own).any, fun x hx => (Hp.out.dat x hx).any⟩ hb3
      have hli := list_any A3 Q m3 c4 m3 c3 rows3 rows w3 hbt hbt2 (by omega) (by unfold maxLen; omega)
      rw [hmap, show decide (rows.map Br.d = rows.map Br.d) = true from by simp] at hli
      have Hli := Lib.hid hli
      have Htd := Lib.hid htd
      have Hbe := Lib.hid (Hp.out.be.trans (hb3.mono Hp.out.be.size))
      have htp := Hp.out.td.below hb3
      have hn := Hp.out.n
      have Htp := Lib.hid htp
      clear hbt hbt2 hli htd hbr hmap hb3 htw hrec hoff Hop htp hmc hcm
      go_wp2_with fail
      refine Hli.out.mono ?_
      rintro e w4 ⟨rfl, hb4⟩
      have hl1 := len_any w4 (Htd.out.below hb4)
      have hl2 := len_any w4 (Htp.out.below hb4)
      rw [hn] at hl2
      dsimp only at hl1
      have hb := Hbe.out.trans (hb4.mono Hbe.out.size)
      have Hb4 := Lib.hid hb
      have Hl1 := Lib.hid hl1
      have Hl2 := Lib.hid hl2
      clear hb hb4 hl1 hl2 hn
      go_wp2_with fail
      refine Hl1.out.mono ?_
      rintro e w5 ⟨rfl, rfl⟩
      go_wp2_with fail
      refine Hl2.out.mono ?_
      rintro e w5 ⟨rfl, rfl⟩
      go_wp2_with fail
      refine (Hsure.out _).mono ?_
      rintro e w6 ⟨rfl, hb6⟩
      go_wp2_with fail
      go_ret
      exact ⟨rfl, Hb4.out.trans (hb6.mono Hb4.out.size)⟩
end Go.Proofs.YtijgkejknijplaaDoor
