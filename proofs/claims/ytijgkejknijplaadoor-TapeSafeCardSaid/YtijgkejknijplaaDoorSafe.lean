/- The law TapeSafe, walked. -/
import Derived.Test.YtijgkejknijplaaDoorSafeI
import Derived.Test.YtijgkejknijplaaDoorBack
import Derived.Test.YtijgkejknijplaaDoorOwn
import Derived.Test.YtijgkejknijplaaDoorStart
namespace Go.Proofs.YtijgkejknijplaaDoor
open Go.RowKit
set_option maxRecDepth 100000
set_option linter.unusedVariables false
set_option linter.unusedSimpArgs false
theorem rec_zero10 : recs (Dk.make 300).now 10 260 = ([], 10, false) := recs_end (by
  unfold mkAt
  rw [getD_get]
  show ((List.replicate 300 (0 : UInt8))[10]?).getD 0 = 0
  rw [List.getElem?_replicate]
  split <;> rfl)
theorem TapI.start {w w1 w2 : World} {L : Nat → Prop} {g tg : Nat} (hb1 : Below w.heap.size w w1) (hx : DX w1 L g (Dk.make 300) 300) (hL : ∀ b, L b → w.heap.size ≤ b) (htw : w1.heap.size + 1 ≤ tg) (htd : TDX w2 L tg g ⟨260, 10, 10, 0, 0⟩ (Dk.make 300) 300) (hb2 : Below (w1.heap.size + 1) (w1.alloc (.cells #[.int .i64 10, .int .i64 250] 36)) w2) : TapI w w1.heap.size 300 g tg ⟨260, 10, 10, 0, 0⟩ (Dk.make 300) L none 0 0 [] w2 := by
  have hlt := hx.lt
  have hs := hb1.size
  have ha : Below w1.heap.size w1 (w1.alloc (.cells #[.int .i64 10, .int .i64 250] 36)) := (Below.refl _ _).alloc (Nat.le_refl _) _
  refine ⟨htd, own_nil _ _ _ _ _ rfl, (fun b hb => by cases hb), (fun x hx => (List.not_mem_nil hx).elim), hL, by omega, (hb1.trans (ha.mono hs)).trans (hb2.mono (by omega)), (Bx.new w1 _ _ rfl).under hb2 (by omega), fun hl => ?_, by omega, hs⟩
  have := hlt _ hl
  omega
theorem SafeP.start : SafeP 10 260 300 ⟨260, 10, 10, 0, 0⟩ (Dk.make 300) [] := ⟨make_calm 300, rfl, rfl, rfl, rec_zero10⟩
set_option maxHeartbeats 25600000 in
theorem safe_walk (A : Option Addr) (n c : Nat) (l : List Br) (SA : Option Addr) (sn sc : Nat) (st : List Int) (KA : Option Addr) (kn kc : Nat) (kp : List Int) (w : World) (hr : BRT w A n l) (hlm : ∀ x ∈ l, x.n ≤ x.m ∧ x.m ≤ maxLen) (hst : Rd w T 1 SA sn (ii st)) (hkr : Rd w T 1 KA kn (ii kp)) (hki : ∀ x ∈ kp, I64 x) (hk8 : kn * 8 ≤ 140737488351232) (hg : ErrT w) :
    Calls Tryd.prog 6 #[.slice A n c, .slice SA sn sc, .slice KA kn kc] w (YesPost w) := by
  have hsure := fun W => sure_any W
  have Hsure := Lib.hid hsure
  have Hg := Lib.hid hg
  have Hr := Lib.hid hr
  have Hlm := Lib.hid hlm
  have Hst := Lib.hid hst
  have Hkr := Lib.hid hkr
  have Hki := Lib.hid hki
  have Hk8 := Lib.hid hk8
  have hw0 := hg.lt
  have hnum : ∀ k W, Below w.heap.size w W → Calls Tryd.prog 12 #[errD k] W fun e w' => e = .returned (.int .i64 k) ∧ Below W.heap.size W w' := fun k W hb => num_any k W (Hg.out.under hb hw0)
  have Hnum := Lib.hid hnum
  have hnew := new_any 300 (by omega) (by omega) w
  have hng : ¬ BadArea 300 10 250 := by unfold BadArea; omega
  have Hng := Lib.hid hng
  have hsl : st.length = sn := by have := hst.1; simp [ii] at this; omega
  have Hsl := Lib.hid hsl
  clear hsure hg hr hlm hnum hng hst hkr hki hk8 hsl
  go_enter Tryd.func6, Tryd.ntmps6
  go_wp2_with fail
  refine hnew.mono ?_
  rintro e w1 ⟨L, g, rfl, hdx, hL, hb1⟩
  have hop := open_any 10 250 _ (hdx.below ((Below.refl _ _).alloc (Nat.le_refl _) (.cells #[.int .i64 10, .int .i64 250] 36))) (by unfold I64; omega) (by unfold I64; omega)
  have Hop := Lib.hid hop
  have Hdx := Lib.hid hdx
  have HL := Lib.hid hL
  have Hb1 := Lib.hid hb1
  clear hop hdx hL hb1 hnew
  go_wp2_with fail
  refine Hop.out.mono ?_
  rintro e w2 ⟨hb2, ⟨h, -⟩ | ⟨-, h, -⟩ | ⟨-, -, h, -⟩ | ⟨-, -, -, tg, A2, m2, c2, rows2, rfl, htw, htd, hbr, hmap, -⟩⟩
  · exact absurd h Hng.out
  · cases h
  · exact absurd h (by rw [show ((10 : Int).toNat) = 10 from rfl, show ((250 : Int).toNat) = 250 from rfl, rec_zero10]; decide)
  rw [show ((10 : Int).toNat) = 10 from rfl, show ((250 : Int).toNat) = 250 from rfl, rec_zero10] at htd hmap
  have hs1 : (w1.alloc (.cells #[.int .i64 10, .int .i64 250] 36)).heap.size = w1.heap.size + 1 := by simp
  rw [hs1] at htw hb2
  have hst := TapI.start Hb1.out Hdx.out HL.out htw htd hb2
  have Hst0 := Lib.hid hst
  clear hst hbr hmap htd htw hb2 Hop Hdx hs1
  go_wp2_with fail
  go_loopg [10, 13, 14] 25 (fun m s10 s13 s14 wr => ∃ i tg t D L Q k c rows, m = 25 - i ∧ i ≤ 25 ∧ k ≤ i ∧ s10 = .pointer (some ⟨tg, 0, none⟩) ∧ s13 = .slice Q k c ∧ s14 = .int .i64 (i : Nat) ∧ SafeP 10 260 300 t D (rows.map Br.d) ∧ TapI w w1.heap.size 300 g tg t D L Q k c rows wr)
  case atStart => exact ⟨0, tg, _, _, L, none, 0, 0, [], by omega, by omega, by omega, rfl, rfl, rfl, SafeP.start, Hst0.out⟩
  case round =>
    obtain ⟨i, tg, t, D, L2, Q, k, c3, rows, hm, hi, hki, rfl, rfl, rfl, hsp, hp⟩ := hrel
    have Hm := Lib.hid hm
    have Hp := Lib.hid hp
    have Hsp := Lib.hid hsp
    clear hm hp hsp Hst0
    obtain ⟨wq, rfl⟩ : ∃ wq, wq = wr := ⟨_, rfl⟩
    go_upto_region 8 with (fail)
    go_cut [49] (fun s49 W => s49 = .bool (decide (i < n ∧ i < 25)) ∧ W = wq)
    case first =>
      by_cases h1 : i < n
      · have h1I : (i : Int) < n := by omega
        by_cases h2 : i < 25
        · have h2I : (i : Int) < 25 := by omega
          go_wp2_with fail
          go_meet
          case rel => exact ⟨by simp [h1, h2], rfl⟩
        · have h2d : decide ((i : Int) < 25) = false := by simp; omega
          go_wp2_with fail
          go_meet
          case rel => exact ⟨by simp [h1, h2], rfl⟩
      · have h1d : decide ((i : Int) < n) = false := by simp; omega
        go_wp2_with fail
        go_meet
        case rel => exact ⟨by simp [h1], rfl⟩
    case rest =>
    obtain ⟨rfl, rfl⟩ := hcut
    by_cases hlt : i < n ∧ i < 25
    · have hd49 : decide (i < n ∧ i < 25) = true := by simp [hlt]
      rw [hd49]
      obtain ⟨hin, hi25⟩ := hlt
      obtain ⟨b, o, y, rfl, _, hbl, hy, q0w⟩ := br_cells Hr.out.1 hin
      have hcl : ∀ W, Below w.heap.size w W → W.cell? ⟨b, o + i, none⟩ = some (.slice y.A y.n y.m) := fun W hb => (hb.cell (p := ⟨b, o + i, none⟩) hbl).trans q0w
      have q0 := hcl _ Hp.out.be
      have Hcl := Lib.hid hcl
      have hinI : (i : Int) < n := by omega
      have h0i : (0 : Int) ≤ i := by omega
      have hyd := Hr.out.2 y (List.mem_of_getElem? hy)
      have hym := Hlm.out y (List.mem_of_getElem? hy)
      have hylen := hyd.blen
      have Hyd := Lib.hid hyd
      have hymx : y.n ≤ 9223372036854775807 := by have := hym.2; unfold maxLen at this; omega
      clear hyd hy hcl q0w
      by_cases hlong : 100 < y.n
      · have hlI : (100 : Int) < y.n := by omega
        clear hylen hym
        go_wp2_with fail
        go_roundg (25 - (i + 1))
        case measure => have := Hm.out; omega
        case rel => exact ⟨i + 1, tg, t, D, L2, Q, k, c3, rows, rfl, by omega, by omega, rfl, rfl, by go_num, Hsp.out, Hp.out⟩
      have hlI : decide ((100 : Int) < (y.n : Int)) = false := by simp; omega
      have hy1 : y.n ≤ 100 := by omega
      have Hylen := Lib.hid hylen
      clear hylen hym
      go_upto_region 11 with (fail)
      go_cut [73] (fun s73 W => s73 = .bool false ∧ ∃ D1 L1, SafeP 10 260 300 t D1 (rows.map Br.d) ∧ TapI w w1.heap.size 300 g tg t D1 L1 Q k c3 rows W)
      case first =>
        by_cases hsn : i < sn
        · have hsnI : (i : Int) < sn := by omega
          obtain ⟨sb, so, rfl, -, hsb, hsc⟩ := Hst.out.plain (by omega) (by omega)
          obtain ⟨x, hx⟩ : ∃ x, st[i]? = some x := ⟨_, List.getElem?_eq_getElem (by rw [Hsl.out]; exact hsn)⟩
          have q1 : wc.cell? ⟨sb, so + i, none⟩ = some (.int .i64 x) := (Hp.out.be.cell (p := ⟨sb, so + i, none⟩) hsb).trans (hsc i _ (by simp [ii, hx]))
          obtain ⟨K, hK, -, hK1, hK2⟩ := uint_mod x 6 6 rfl (by omega) (by omega)
          obtain ⟨e1, hsp1⟩ := Hsp.out.arm K (by omega)
          have harm := arm_any (K : Nat) wc Hp.out.td.dx (by unfold I64; omega)
          unfold ArmPost at harm
          rw [e1, errD_nil] at harm
          have Harm := Lib.hid harm
          have Hsp1 := Lib.hid hsp1
          clear hsc hx e1 hsp1 harm
          go_wp2_with fail
          refine Harm.out.mono ?_
          rintro e w3 ⟨rfl, haft⟩
          obtain ⟨L3, hp3⟩ := Hp.out.disk haft
          have Hp3 := Lib.hid hp3
          clear haft hp3 Harm
          go_wp2_with fail
          go_meet
          case rel => exact ⟨rfl, _, L3, Hsp1.out, Hp3.out⟩
        · have hsnI : decide ((i : Int) < (sn : Int)) = false := by simp; omega
          go_wp2_with fail
          go_meet
          case rel => exact ⟨rfl, D, L2, Hsp.out, Hp.out⟩
      case rest =>
        obtain ⟨rfl, D1, L1, hsp1, hp1⟩ := hcut
        have hrq := fun k => room_any (wc.drewN k) (hp1.td.drewN k)
        have hez := hp1.td.ok
        have ht1 := hsp1.t1
        have hcl0 := Hcl.out _ hp1.be
        obtain ⟨RB, hRB⟩ : ∃ RB, RB = t.room := ⟨_, rfl⟩
        rw [← hRB] at hrq
        have HRB := Lib.hid hRB
        have Hrq := Lib.hid hrq
        have Hsp1 := Lib.hid hsp1
        have Hp1 := Lib.hid hp1
        clear hrq hRB hsp1 hp1 q0 hez ht1
        go_upto_region 13 with (fail)
        go_cut [15] (fun s15 W => s15 = .bool (decide (RB < (y.n : Int))) ∧ ∃ j, W = wc.drewN j)
        case first =>
          go_quiet (first | (go_at_call 16; exact Calls.quiet_of (Hrq.out _)))
          go_wp2_with fail
          go_meet
          case rel => exact ⟨rfl, _, rfl⟩
        case rest =>
          obtain ⟨rfl, jr, rfl⟩ := hcut
          have hp2 := Hp1.out.below (w2 := wc.drewN jr) ⟨rfl, rfl, rfl, Nat.le_refl _, fun _ _ => rfl⟩
          obtain ⟨W2, hW2⟩ : ∃ W2, W2 = wc.drewN jr := ⟨_, rfl⟩
          rw [← hW2] at hp2 ⊢
          have q2 := Hcl.out _ hp2.be
          have hqq : D1.q.length ≤ 999000 := by rw [Hsp1.out.calm.q]; exact Nat.zero_le _
          have hdec := room_len t y.n
          rw [← HRB.out] at hdec
          have Hp2 := Lib.hid hp2
          clear hW2 hcl0 Hp1
          by_cases hreset : RB < (y.n : Int)
          · have hbI : decide (RB < (y.n : Int)) = true := by simp [hreset]
            rw [hbI]
            have hre := reset_any W2 Hp2.out.td hqq
            unfold TAPost at hre
            clear hdec
            rcases Hsp1.out.reset Hp2.out.td.ok (by omega) with ⟨t', D', e1, hsp3⟩ | ⟨t', D', e1, hdead, hcut⟩
            · rw [e1] at hre
              dsimp only at hre
              rw [errD_nil] at hre
              have Hre := Lib.hid hre
              have Hsp3 := Lib.hid hsp3
              clear hre e1 hsp3 hqq hreset hbI
              go_wp2_with fail
              refine Hre.out.mono ?_
              rintro e w3 ⟨rfl, haft⟩
              obtain ⟨L3, hp3⟩ := Hp2.out.aft haft
              obtain ⟨tg4, htg4⟩ : ∃ tg4, tg4 = tg := ⟨_, rfl⟩
              have hdn := down_any w3 hp3.td.dx
              rw [Hsp3.out.calm.off] at hdn
              have Hdn := Lib.hid hdn
              have Hp3 := Lib.hid hp3
              clear haft hp3 hdn htg4 Hre
              go_wp2_with fail
              refine Hdn.out.mono ?_
              rintro e w4 ⟨rfl, rfl⟩
              go_wp2_with fail
              go_roundg (25 - (i + 1))
              case measure => have := Hm.out; omega
              case rel => exact ⟨i + 1, tg, t', D', L3, none, 0, 0, [], rfl, by omega, by omega, rfl, rfl, by go_num, Hsp3.out, Hp3.out.clear⟩
            · rw [e1] at hre
              dsimp only at hre
              rw [errD_ne (by decide)] at hre
              have Hre := Lib.hid hre
              have Hdead := Lib.hid hdead
              have Hcut := Lib.hid hcut
              have hnre := hreset
              clear hre e1 hdead hcut hqq hnre hreset hbI
              go_wp2_with fail
              refine Hre.out.mono ?_
              rintro e w3 ⟨rfl, haft⟩
              obtain ⟨L3, hp3⟩ := Hp2.out.aft haft
              have hnb := hp3.be
              have hn13 : Calls Tryd.prog 12 #[.iface 58 (.int .i64 13)] w3 fun e w' => e = .returned (.int .i64 13) ∧ Below w3.heap.size w3 w' := Hnum.out 13 w3 hnb
              have Hn13 := Lib.hid hn13
              have Hp3 := Lib.hid hp3
              clear haft hp3 hnb hn13 Hre
              go_wp2_with fail
              refine Hn13.out.mono ?_
              rintro e w4 ⟨rfl, hb4⟩
              have hp4 := Hp3.out.below hb4
              have hap4 := append_any none 0 0 [] w4 hp4.td Rd.none_ (by unfold maxLen; omega) (by have := Hcut.out.q; omega)
              unfold TAPost at hap4
              rw [append_dead_eq (by rw [Hdead.out]; decide), Hdead.out] at hap4
              dsimp only at hap4
              rw [errD_ne (by decide)] at hap4
              have Hap4 := Lib.hid hap4
              have Hp4 := Lib.hid hp4
              clear hb4 hp4 hap4 Hn13
              go_wp2_with fail
              refine Hap4.out.mono ?_
              rintro e w5 ⟨rfl, haft⟩
              obtain ⟨L5, hp5⟩ := Hp4.out.aft haft
              have hn5 : Calls Tryd.prog 12 #[.iface 58 (.int .i64 13)] w5 fun e w' => e = .returned (.int .i64 13) ∧ Below w5.heap.size w5 w' := Hnum.out 13 w5 hp5.be
              have Hn5 := Lib.hid hn5
              have Hp5 := Lib.hid hp5
              clear haft hp5 hn5 Hap4
              go_wp2_with fail
              refine Hn5.out.mono ?_
              rintro e w6 ⟨rfl, hb6⟩
              have hp6 := Hp5.out.below hb6
              have how := own_any KA kn kc kp w6 (Hkr.out.below hp6.be) Hk8.out
              unfold OwnPost at how
              have How := Lib.hid how
              have Hp6 := Lib.hid hp6
              clear hb6 hp6 how Hn5
              go_wp2_with fail
              refine How.out.mono ?_
              rintro e w7 ⟨KA2, kc2, rfl, hkr2, hb7⟩
              have hp7 := Hp6.out.below hb7
              have hstt := start_any KA2 kn kc2 kp w7 hp7.td.dx hkr2.any Hki.out (by have := Hcut.out.q; omega)
              unfold StartPost at hstt
              have Hstt := Lib.hid hstt
              have Hp7 := Lib.hid hp7
              clear hb7 hp7 hstt How hkr2
              go_wp2_with fail
              refine Hstt.out.mono ?_
              rintro e w8 ⟨rfl, haft⟩
              obtain ⟨L8, hp8⟩ := Hp7.out.disk haft
              have hP := Hcut.out.st kp
              obtain ⟨pE, hP⟩ := hP
              have hcalm := Dk.started_calm (D := D') Hcut.out.ok kp
              obtain ⟨D8, hD8⟩ : ∃ D8, D8 = D'.started kp := ⟨_, rfl⟩
              rw [← hD8] at hP hcalm hp8
              have hop8 := open_any 10 250 w8 hp8.td.dx (by unfold I64; omega) (by unfold I64; omega)
              obtain ⟨x0, x1, -⟩ := hp8.ab.c2
              have Hop8 := Lib.hid hop8
              have Hp8 := Lib.hid hp8
              have HP := Lib.hid hP
              have Hcalm := Lib.hid hcalm
              clear haft hp8 hop8 hP hcalm hD8 Hstt
              go_wp2_with fail
              refine Hop8.out.mono ?_
              have hoff := Hcalm.out.off
              rintro e w9 ⟨hb9, ⟨h, -⟩ | ⟨-, h, -⟩ | ⟨-, -, h, -⟩ | ⟨-, -, -, tg9, A9, m9, c9, rows9, rfl, htw9, htd9, hbr9, hmap9, hmc9, hcm9⟩⟩
              · exact absurd h Hng.out
              · rw [hoff] at h; cases h
              · rw [show ((10 : Int).toNat) = 10 from rfl, show ((250 : Int).toNat) = 250 from rfl] at h
                rcases HP.out with hP | hP
                · rw [hP] at h; cases h
                · rw [hP] at h; cases h
              rw [show ((10 : Int).toNat) = 10 from rfl, show ((250 : Int).toNat) = 250 from rfl] at htd9 hmap9
              have hp9 := Hp8.out.open_ hb9 htw9 htd9
              have hbt9 : BRT w9 A9 m9 rows9 := ⟨hbr9.t, fun x hx => (hbr9.2 x hx).1.any⟩
              have hm9 := hbr9.len
              obtain ⟨news9, hnews9⟩ : ∃ news9, news9 = (recs D8.now 10 260).1 := ⟨_, rfl⟩
              have hlen9 : m9 = news9.length := by rw [← hm9, hnews9, ← hmap9, List.length_map]
              have hsp9 : SafeP 10 260 300 ⟨10 + 250, 10, (recs D8.now 10 (10 + 250)).2.1, (recs D8.now 10 (10 + 250)).1.length, 0⟩ D8 news9 := by
                refine ⟨Hcalm.out, rfl, rfl, rfl, ?_⟩
                rw [hnews9]
                rcases HP.out with hP | hP
                · rw [hP]
                · rw [hP]
              have hPn : news9 = rows.map Br.d ∨ news9 = [] := by
                rw [hnews9]
                rcases HP.out with hP | hP
                · exact .inl (by rw [hP])
                · exact .inr (by rw [hP])
              have hmap9' : rows9.map Br.d = news9 := by rw [hnews9]; exact hmap9
              have hmle : m9 ≤ 1000000000 := by
                have h1 := htd9.ok.n5
                have h2 := htd9.ok.pe
                have h3 := hlen9
                rw [hnews9] at h3
                dsimp only at h1 h2
                have h4 : (recs D8.now 10 (10 + 250)).1.length = (recs D8.now 10 260).1.length := rfl
                omega
              have hli := list_any A9 Q m9 c9 k c3 rows9 rows w9 hbt9 hp9.brt hmle (by unfold maxLen; omega)
              rw [hmap9'] at hli
              obtain ⟨t9, ht9⟩ : ∃ t9, t9 = (⟨10 + 250, 10, (recs D8.now 10 (10 + 250)).2.1, (recs D8.now 10 (10 + 250)).1.length, 0⟩ : Tp) := ⟨_, rfl⟩
              rw [← ht9] at hsp9 hp9
              have Hli := Lib.hid hli
              have Hp9 := Lib.hid hp9
              have Hsp9 := Lib.hid hsp9
              have Hbt9 := Lib.hid hbt9
              have Hmap9 := Lib.hid hmap9'
              have Hlen9 := Lib.hid hlen9
              have Hklen := Lib.hid Hp3.out.len
              clear hli hp9 hsp9 hbt9 hmap9 hmap9' hlen9 htd9 hbr9 hb9 htw9 hm9 hnews9 ht9 hoff Hop8 Hp8 x0 x1
              by_cases heq : news9 = rows.map Br.d
              · have hdt : decide (news9 = rows.map Br.d) = true := by simp [heq]
                have Heq := Lib.hid heq
                clear heq hPn
                go_wp2_with fail
                refine Hli.out.mono ?_
                rintro e w10 ⟨rfl, hb10⟩
                have hp10 := Hp9.out.below hb10
                have Hp10 := Lib.hid hp10
                clear hb10 hp10
                rw [hdt]
                go_wp2_with fail
                go_roundg (25 - (i + 1))
                case measure => have := Hm.out; omega
                case rel => exact ⟨i + 1, tg9, t9, D8, L8, Q, k, c3, rows, rfl, by omega, by omega, rfl, rfl, by go_num, by rw [← Heq.out]; exact Hsp9.out, Hp10.out⟩
              · have hdf : decide (news9 = rows.map Br.d) = false := by simp [heq]
                have halt : news9 = [] := by
                  rcases hPn with h | h
                  · exact absurd h heq
                  · exact h
                have Halt := Lib.hid halt
                clear heq hPn halt
                have hm0 : m9 = 0 := by rw [Hlen9.out, Halt.out]; rfl
                subst hm0
                go_wp2_with fail
                refine Hli.out.mono ?_
                rintro e w10 ⟨rfl, hb10⟩
                have hp10 := Hp9.out.below hb10
                have Hp10 := Lib.hid hp10
                clear hb10 hp10
                rw [hdf]
                go_wp2_with fail
                go_roundg (25 - (i + 1))
                case measure => have := Hm.out; omega
                case rel => exact ⟨i + 1, tg9, t9, D8, L8, none, 0, 0, [], rfl, by omega, by omega, rfl, rfl, by go_num, by rw [Halt.out] at Hsp9; exact Hsp9.out, Hp10.out.clear⟩
          · have hbI : decide (RB < (y.n : Int)) = false := by simp [hreset]
            have hfit : t.p + 5 + y.n ≤ 260 := by
              rw [hbI, Hsp1.out.t1] at hdec
              simpa using hdec.symm
            rw [hbI]
            have hap := append_any y.A y.n y.m y.d W2 Hp2.out.td (Hyd.out.below Hp2.out.be) (by unfold maxLen; omega) hqq
            unfold TAPost at hap
            clear hdec
            rcases Hsp1.out.append (x := y.d) Hp2.out.td.ok (by rw [Hylen.out]; omega) (by rw [Hylen.out]; exact hfit) with ⟨t', D', e1, hsp3⟩ | ⟨t', D', e1, hdead, hcut⟩
            · rw [e1] at hap
              dsimp only at hap
              rw [errD_nil] at hap
              have Hap := Lib.hid hap
              have Hsp3 := Lib.hid hsp3
              clear hap e1 hsp3 hqq hreset hbI hfit
              go_wp2_with fail
              refine Hap.out.mono ?_
              rintro e w3 ⟨rfl, haft⟩
              obtain ⟨L3, hp3⟩ := Hp2.out.aft haft
              have q3 := Hcl.out _ hp3.be
              have hown := own_below hp3.own ((Below.refl _ _).alloc (Nat.le_refl _) (.cells #[.slice y.A y.n y.m] 22))
              have hlit : Rd (w3.alloc (.cells #[.slice y.A y.n y.m] 22)) (w3.heap.size ≤ ·) 1 (some ⟨w3.heap.size, 0, none⟩) 1 [.slice y.A y.n y.m] := Rd.lit (w := w3) (cs := #[.slice y.A y.n y.m]) (t := 22) (fr := (0, 0)) rfl
              have hmore := fun Q' c' w3 => hp3.more (y := y) (w3 := w3) (Q' := Q') (c' := c') (t0 := 22) (((Hyd.out.lt (by omega))).mono fun b hb => hb.2)
              have hbsz := hp3.be.size
              have hoff := Hsp3.out.calm.off
              have Hown := Lib.hid hown
              have Hlit := Lib.hid hlit
              have Hmore := Lib.hid hmore
              have Hoff := Lib.hid hoff
              clear hown hlit hmore haft hp3 hoff Hap
              go_wp2_with (at_builtin; go_must (refine wpList_append_any _ Tryd.underlying32 bb_elem rfl (by omega) rfl rfl rfl Hown.out rfl Hlit.out (by intro u hu; obtain rfl := List.mem_singleton.1 hu; rfl) (by omega) (by simp; exact Nat.le_trans hbsz (Nat.le_succ _)) rfl rfl ?_); intro A3 c5 w4 hown5 hg5 hat5; have hI := Hmore.out A3 c5 w4 hown5 hg5 hat5; have hdn := down_any w4 hI.td.dx; rw [Hoff.out] at hdn; have Hdn := Lib.hid hdn; have HI := Lib.hid hI; clear hI hown5 hg5 hat5 hdn)
              refine Hdn.out.mono ?_
              rintro e w5 ⟨rfl, rfl⟩
              go_wp2_with fail
              go_roundg (25 - (i + 1))
              case measure => have := Hm.out; omega
              case rel =>
                refine ⟨i + 1, tg, t', D', L3, A3, k + 1, c5, _, rfl, by omega, by omega, rfl, rfl, by go_num, ?_, HI.out⟩
                rw [List.map_append]
                exact Hsp3.out
            · rw [e1] at hap
              dsimp only at hap
              rw [errD_ne (by decide)] at hap
              have Hap := Lib.hid hap
              have Hdead := Lib.hid hdead
              have Hcut := Lib.hid hcut
              clear hap e1 hdead hcut hqq hreset hbI hfit
              go_wp2_with fail
              refine Hap.out.mono ?_
              rintro e w3 ⟨rfl, haft⟩
              obtain ⟨L3, hp3⟩ := Hp2.out.aft haft
              have hnb := hp3.be
              have hn13 : Calls Tryd.prog 12 #[.iface 58 (.int .i64 13)] w3 fun e w' => e = .returned (.int .i64 13) ∧ Below w3.heap.size w3 w' := Hnum.out 13 w3 hnb
              have Hn13 := Lib.hid hn13
              have Hp3 := Lib.hid hp3
              clear haft hp3 hnb hn13 Hap
              go_wp2_with fail
              refine Hn13.out.mono ?_
              rintro e w4 ⟨rfl, hb4⟩
              have hp4 := Hp3.out.below hb4
              have hap4 := append_any none 0 0 [] w4 hp4.td Rd.none_ (by unfold maxLen; omega) (by have := Hcut.out.q; omega)
              unfold TAPost at hap4
              rw [append_dead_eq (by rw [Hdead.out]; decide), Hdead.out] at hap4
              dsimp only at hap4
              rw [errD_ne (by decide)] at hap4
              have Hap4 := Lib.hid hap4
              have Hp4 := Lib.hid hp4
              clear hb4 hp4 hap4 Hn13
              go_wp2_with fail
              refine Hap4.out.mono ?_
              rintro e w5 ⟨rfl, haft⟩
              obtain ⟨L5, hp5⟩ := Hp4.out.aft haft
              have hn5 : Calls Tryd.prog 12 #[.iface 58 (.int .i64 13)] w5 fun e w' => e = .returned (.int .i64 13) ∧ Below w5.heap.size w5 w' := Hnum.out 13 w5 hp5.be
              have Hn5 := Lib.hid hn5
              have Hp5 := Lib.hid hp5
              clear haft hp5 hn5 Hap4
              go_wp2_with fail
              refine Hn5.out.mono ?_
              rintro e w6 ⟨rfl, hb6⟩
              have hp6 := Hp5.out.below hb6
              have how := own_any KA kn kc kp w6 (Hkr.out.below hp6.be) Hk8.out
              unfold OwnPost at how
              have How := Lib.hid how
              have Hp6 := Lib.hid hp6
              clear hb6 hp6 how Hn5
              go_wp2_with fail
              refine How.out.mono ?_
              rintro e w7 ⟨KA2, kc2, rfl, hkr2, hb7⟩
              have hp7 := Hp6.out.below hb7
              have hstt := start_any KA2 kn kc2 kp w7 hp7.td.dx hkr2.any Hki.out (by have := Hcut.out.q; omega)
              unfold StartPost at hstt
              have Hstt := Lib.hid hstt
              have Hp7 := Lib.hid hp7
              clear hb7 hp7 hstt How hkr2
              go_wp2_with fail
              refine Hstt.out.mono ?_
              rintro e w8 ⟨rfl, haft⟩
              obtain ⟨L8, hp8⟩ := Hp7.out.disk haft
              have hP := Hcut.out.st kp
              obtain ⟨pE, hP⟩ := hP
              have hcalm := Dk.started_calm (D := D') Hcut.out.ok kp
              obtain ⟨D8, hD8⟩ : ∃ D8, D8 = D'.started kp := ⟨_, rfl⟩
              rw [← hD8] at hP hcalm hp8
              have hop8 := open_any 10 250 w8 hp8.td.dx (by unfold I64; omega) (by unfold I64; omega)
              obtain ⟨x0, x1, -⟩ := hp8.ab.c2
              have Hop8 := Lib.hid hop8
              have Hp8 := Lib.hid hp8
              have HP := Lib.hid hP
              have Hcalm := Lib.hid hcalm
              clear haft hp8 hop8 hP hcalm hD8 Hstt
              go_wp2_with fail
              refine Hop8.out.mono ?_
              have hoff := Hcalm.out.off
              rintro e w9 ⟨hb9, ⟨h, -⟩ | ⟨-, h, -⟩ | ⟨-, -, h, -⟩ | ⟨-, -, -, tg9, A9, m9, c9, rows9, rfl, htw9, htd9, hbr9, hmap9, hmc9, hcm9⟩⟩
              · exact absurd h Hng.out
              · rw [hoff] at h; cases h
              · rw [show ((10 : Int).toNat) = 10 from rfl, show ((250 : Int).toNat) = 250 from rfl] at h
                rcases HP.out with hP | hP
                · rw [hP] at h; cases h
                · rw [hP] at h; cases h
              rw [show ((10 : Int).toNat) = 10 from rfl, show ((250 : Int).toNat) = 250 from rfl] at htd9 hmap9
              have hp9 := Hp8.out.open_ hb9 htw9 htd9
              have hbt9 : BRT w9 A9 m9 rows9 := ⟨hbr9.t, fun x hx => (hbr9.2 x hx).1.any⟩
              have hm9 := hbr9.len
              obtain ⟨news9, hnews9⟩ : ∃ news9, news9 = (recs D8.now 10 260).1 := ⟨_, rfl⟩
              have hlen9 : m9 = news9.length := by rw [← hm9, hnews9, ← hmap9, List.length_map]
              have hsp9 : SafeP 10 260 300 ⟨10 + 250, 10, (recs D8.now 10 (10 + 250)).2.1, (recs D8.now 10 (10 + 250)).1.length, 0⟩ D8 news9 := by
                refine ⟨Hcalm.out, rfl, rfl, rfl, ?_⟩
                rw [hnews9]
                rcases HP.out with hP | hP
                · rw [hP]
                · rw [hP]
              have hPn : news9 = rows.map Br.d ∨ news9 = (rows.map Br.d ++ [y.d]) := by
                rw [hnews9]
                rcases HP.out with hP | hP
                · exact .inl (by rw [hP])
                · exact .inr (by rw [hP])
              have hmap9' : rows9.map Br.d = news9 := by rw [hnews9]; exact hmap9
              have hmle : m9 ≤ 1000000000 := by
                have h1 := htd9.ok.n5
                have h2 := htd9.ok.pe
                have h3 := hlen9
                rw [hnews9] at h3
                dsimp only at h1 h2
                have h4 : (recs D8.now 10 (10 + 250)).1.length = (recs D8.now 10 260).1.length := rfl
                omega
              have hli := list_any A9 Q m9 c9 k c3 rows9 rows w9 hbt9 hp9.brt hmle (by unfold maxLen; omega)
              rw [hmap9'] at hli
              obtain ⟨t9, ht9⟩ : ∃ t9, t9 = (⟨10 + 250, 10, (recs D8.now 10 (10 + 250)).2.1, (recs D8.now 10 (10 + 250)).1.length, 0⟩ : Tp) := ⟨_, rfl⟩
              rw [← ht9] at hsp9 hp9
              have Hli := Lib.hid hli
              have Hp9 := Lib.hid hp9
              have Hsp9 := Lib.hid hsp9
              have Hbt9 := Lib.hid hbt9
              have Hmap9 := Lib.hid hmap9'
              have Hlen9 := Lib.hid hlen9
              have Hklen := Lib.hid Hp3.out.len
              clear hli hp9 hsp9 hbt9 hmap9 hmap9' hlen9 htd9 hbr9 hb9 htw9 hm9 hnews9 ht9 hoff Hop8 Hp8 x0 x1
              by_cases heq : news9 = rows.map Br.d
              · have hdt : decide (news9 = rows.map Br.d) = true := by simp [heq]
                have Heq := Lib.hid heq
                clear heq hPn
                go_wp2_with fail
                refine Hli.out.mono ?_
                rintro e w10 ⟨rfl, hb10⟩
                have hp10 := Hp9.out.below hb10
                have Hp10 := Lib.hid hp10
                clear hb10 hp10
                rw [hdt]
                go_wp2_with fail
                go_roundg (25 - (i + 1))
                case measure => have := Hm.out; omega
                case rel => exact ⟨i + 1, tg9, t9, D8, L8, Q, k, c3, rows, rfl, by omega, by omega, rfl, rfl, by go_num, by rw [← Heq.out]; exact Hsp9.out, Hp10.out⟩
              · have hdf : decide (news9 = rows.map Br.d) = false := by simp [heq]
                have halt : news9 = (rows.map Br.d ++ [y.d]) := by
                  rcases hPn with h | h
                  · exact absurd h heq
                  · exact h
                have Halt := Lib.hid halt
                clear heq hPn halt
                have hm1 : m9 = k + 1 := by rw [Hlen9.out, Halt.out, List.length_append, List.length_map, Hklen.out]; rfl
                subst hm1
                go_wp2_with fail
                refine Hli.out.mono ?_
                rintro e w10 ⟨rfl, hb10⟩
                have hp10 := Hp9.out.below hb10
                have hbt10 := Hbt9.out.below hb10
                have q10 := Hcl.out _ hp10.be
                obtain ⟨b9, o9, y9, rfl, -, hlt9, hy9, q9⟩ := br_cells hbt10.1 (j := k) (by omega)
                have hyd9 : y9.d = y.d := by
                  have := congrArg (fun l => l[k]?) Hmap9.out
                  simp only [List.getElem?_map, hy9, Option.map_some] at this
                  rw [Halt.out, List.getElem?_append_right (by rw [List.length_map, Hklen.out]; omega), List.length_map, Hklen.out, Nat.sub_self] at this
                  simpa using this
                have hd9 := hbt10.2 y9 (List.mem_of_getElem? hy9)
                rw [hyd9] at hd9
                have hcv1 := fun j => conv_bytes (P := Tryd.prog) (c := y9.m) 22 9 5 Tryd.underlying22 Tryd.underlying5 Tryd.underlying9 (hd9.drewN j)
                have hcv2 := fun j => conv_bytes (P := Tryd.prog) (c := y.m) 22 9 5 Tryd.underlying22 Tryd.underlying5 Tryd.underlying9 ((Hyd.out.below hp10.be).drewN j)
                have hkk1 : (k : Int) < (k : Int) + 1 := by omega
                have hk0 : (0 : Int) ≤ k := by omega
                have hsl : ∀ W : World, (Instr.sliceAt 32 (.slice (some ⟨b9, o9, none⟩) (k + 1) c9) none (some (.int .i64 (k : Nat))) none).run Tryd.prog W = .ok (.slice (some ⟨b9, o9, none⟩) k c9) W := by
                  intro W
                  have := run_slice_hi (P := Tryd.prog) 32 Tryd.underlying32 (size := 1) (by kernel_rfl) (some ⟨b9, o9, none⟩) (k + 1) c9 W k (by omega)
                  rw [if_neg (by omega)] at this
                  exact this
                have hbtk : BRT w10 (some ⟨b9, o9, none⟩) k (rows9.take k) := ⟨by have := hbt10.1.take (k := k) (by omega); rw [← flat_take brcell_len] at this; exact this, fun x hx => hbt10.2 x (List.mem_of_mem_take hx)⟩
                have hlq := fun j => list_q (some ⟨b9, o9, none⟩) Q k c9 k c3 (rows9.take k) rows (w10.drewN j) ⟨hbtk.1.drewN j, fun x hx => (hbtk.2 x hx).drewN j⟩ ⟨hp10.brt.1.drewN j, fun x hx => (hp10.brt.2 x hx).drewN j⟩ (by omega) (by unfold maxLen; omega)
                have hdk : decide ((rows9.take k).map Br.d = rows.map Br.d) = true := by
                  have : (rows9.take k).map Br.d = rows.map Br.d := by
                    rw [List.map_take, Hmap9.out, Halt.out, List.take_append_of_le_length (by rw [List.length_map, Hklen.out]; exact Nat.le_refl _), List.take_of_length_le (by rw [List.length_map, Hklen.out]; exact Nat.le_refl _)]
                  simp [this]
                rw [hdk] at hlq
                have Hlq := Lib.hid hlq
                have Hp10 := Lib.hid hp10
                clear hb10 hp10 hbt10 hy9 hyd9 hd9 hbtk hlq hdk hlt9
                rw [hdf]
                go_upto_region 33 with (fail)
                go_cut [145] (fun s145 W => s145 = .bool true ∧ ∃ j, W = w10.drewN j)
                case first =>
                  go_quiet (first | (go_at_call 14; exact Calls.quiet_of (Hlq.out _)))
                  go_wp2_with fail
                  go_meet
                  case rel => exact ⟨rfl, _, rfl⟩
                case rest =>
                  obtain ⟨rfl, j11, rfl⟩ := hcut
                  have hp11 := Hp10.out.below (w2 := w10.drewN j11) ⟨rfl, rfl, rfl, Nat.le_refl _, fun _ _ => rfl⟩
                  have hown := own_below hp11.own ((Below.refl _ _).alloc (Nat.le_refl _) (.cells #[.slice y.A y.n y.m] 22))
                  have hlit : Rd ((w10.drewN j11).alloc (.cells #[.slice y.A y.n y.m] 22)) (w10.heap.size ≤ ·) 1 (some ⟨w10.heap.size, 0, none⟩) 1 [.slice y.A y.n y.m] := Rd.lit (w := w10.drewN j11) (cs := #[.slice y.A y.n y.m]) (t := 22) (fr := (0, 0)) rfl
                  have hmore := fun Q' c' w3 => hp11.more (y := y) (w3 := w3) (Q' := Q') (c' := c') (t0 := 22) (((Hyd.out.lt (by omega))).mono fun b hb => hb.2)
                  have hbsz := hp11.be.size
                  have Hown := Lib.hid hown
                  have Hlit := Lib.hid hlit
                  have Hmore := Lib.hid hmore
                  clear hown hlit hmore hp11 hcv1 hcv2 hsl
                  go_wp2_with (at_builtin; go_must (refine wpList_append_any _ Tryd.underlying32 bb_elem rfl (by omega) rfl rfl rfl Hown.out rfl Hlit.out (by intro u hu; obtain rfl := List.mem_singleton.1 hu; rfl) (by omega) (by simp; exact Nat.le_trans hbsz (Nat.le_succ _)) rfl rfl ?_); intro A3 c5 w12 hown5 hg5 hat5; have hI := Hmore.out A3 c5 w12 hown5 hg5 hat5; have HI := Lib.hid hI; clear hI hown5 hg5 hat5)
                  go_roundg (25 - (i + 1))
                  case measure => have := Hm.out; omega
                  case rel =>
                    refine ⟨i + 1, tg9, t9, D8, L8, A3, k + 1, c5, _, rfl, by omega, by omega, rfl, rfl, by go_num, ?_, HI.out⟩
                    rw [List.map_append]
                    rw [Halt.out] at Hsp9
                    exact Hsp9.out
    · have hd49 : decide (i < n ∧ i < 25) = false := by simp only [hlt]; rfl
      rw [hd49]
      clear hlt Hm
      go_wp2_with fail
      refine (Hsure.out _).mono ?_
      rintro e w3 ⟨rfl, hb3⟩
      go_wp2_with fail
      go_ret
      exact ⟨rfl, Hp.out.be.trans (hb3.mono Hp.out.be.size)⟩
end Go.Proofs.YtijgkejknijplaaDoor
