/- Walks: whether two are near. -/
import Derived.Test.YtedcjakgdoiomaaConf2
namespace Go.Proofs.Ytedcjakgdoiomaa
open Go.RowKit
set_option maxRecDepth 100000
set_option linter.unusedVariables false
set_option linter.unusedSimpArgs false
theorem apart_le (a b : List Int) : apart a b ≤ a.length := List.length_filter_le _ _
theorem apart_any (A : Option Addr) (n c : Nat) (l : List Int) (B : Option Addr) (m d : Nat) (s : List Int) (w : World) {ok ok' : Nat → Prop} (hr : Rd w ok 1 A n (ii l)) (hn : n ≤ 1000000) (hs : Rd w ok' 1 B m (ii s)) (hm : m ≤ 1000000) :
    Calls Try.prog 29 #[.slice A n c, .slice B m d] w fun e w' => e = .returned (.int .i64 (apart l s : Nat)) ∧ w = w' := by
  have Hl := Lib.hid (ii_len hr)
  obtain ⟨q, hq0⟩ : ∃ q, q = apart l s := ⟨_, rfl⟩
  rw [← hq0]
  have Hq0 := Lib.hid hq0
  clear hq0
  have hhas := fun x => hasC_any B m d s x w hs hm
  have Hhas := Lib.hid hhas
  clear hhas
  go_enter Try.func29, Try.ntmps29
  go_wp2_with fail
  go_loopg [5, 7, 10] n (fun r s5 s7 s10 wr => ∃ j : Nat, r = n - j ∧ j ≤ n ∧ s10 = .int .i64 j ∧ s5 = .int .i64 ((((l.take j).filter (aP s)).length : Nat) : Int) ∧ wr = w)
  case atStart => exact ⟨0, by omega, by omega, rfl, rfl, rfl⟩
  case round =>
    obtain ⟨j, hrm, hj, rfl, rfl, rfl⟩ := hrel
    have Hrm := Lib.hid hrm
    clear hrm
    by_cases hlt : j < n
    · obtain ⟨b, o, x, rfl, _, _, hx, hc⟩ := ii_cell hr hlt
      have hft := filt_at (p := aP s) hx
      have hfl := filt_len (aP s) l j
      have Hft := Lib.hid hft
      have hltI : (j : Int) < n := by omega
      clear hx hft
      generalize ((l.take j).filter (aP s)).length = k at hfl Hft
      go_wp2_with fail
      refine (Hhas.out x).mono ?_
      rintro e w' ⟨rfl, rfl⟩
      rcases hd : decide (x ∈ s) with _ | _
      · have hk : ((l.take (j + 1)).filter (aP s)).length = k + 1 := by rw [Hft.out, aP, hd]; rfl
        have Hk := Lib.hid hk
        clear hk hd
        go_wp2_with fail
        go_roundg (n - (j + 1))
        case measure => have := Hrm.out; omega
        case rel => exact ⟨j + 1, rfl, by omega, by go_num, by rw [Hk.out]; go_num, rfl⟩
      · have hk : ((l.take (j + 1)).filter (aP s)).length = k := by rw [Hft.out, aP, hd]; rfl
        have Hk := Lib.hid hk
        clear hk hd
        go_wp2_with fail
        go_roundg (n - (j + 1))
        case measure => have := Hrm.out; omega
        case rel => exact ⟨j + 1, rfl, by omega, by go_num, by rw [Hk.out], rfl⟩
    · obtain rfl : j = n := by omega
      have hq : ((l.take j).filter (aP s)).length = q := by
        rw [Hq0.out]
        unfold apart
        rw [List.take_of_length_le (Nat.le_of_eq Hl.out)]
        rfl
      rw [hq]
      clear hq
      go_wp2_with fail
      go_ret
      exact ⟨rfl, rfl⟩
theorem near_any (A : Option Addr) (n c : Nat) (l : List Int) (B : Option Addr) (m d : Nat) (s : List Int) (w : World) {ok ok' : Nat → Prop} (hr : Rd w ok 1 A n (ii l)) (hn : n ≤ 1000000) (hs : Rd w ok' 1 B m (ii s)) (hm : m ≤ 1000000) :
    Calls Try.prog 18 #[.slice A n c, .slice B m d] w (SameBool w (near l s)) := by
  have hm1 := may_any A n c l w hr hn
  have hm2 := may_any B m d s w hs hm
  have ha1 := apart_any A n c l B m d s w hr hn hs hm
  have ha2 := apart_any B m d s A n c l w hs hm hr hn
  have hq : near l s = (cmay l && cmay s && decide (apart l s + apart s l ≤ 1)) := rfl
  have hl1 : apart l s ≤ 1000000 := by have := apart_le l s; rw [ii_len hr] at this; omega
  have hl2 : apart s l ≤ 1000000 := by have := apart_le s l; rw [ii_len hs] at this; omega
  generalize apart l s = k1 at ha1 hq hl1
  generalize apart s l = k2 at ha2 hq hl2
  have Hm1 := Lib.hid hm1
  have Hm2 := Lib.hid hm2
  have Ha1 := Lib.hid ha1
  have Ha2 := Lib.hid ha2
  clear hm1 hm2 ha1 ha2
  go_enter Try.func18, Try.ntmps18
  go_wp2_with fail
  refine Hm1.out.mono ?_
  rintro e w' ⟨rfl, rfl⟩
  rcases hc1 : cmay l with _ | _
  · rw [hc1, Bool.false_and, Bool.false_and] at hq
    have Hq := Lib.hid hq
    clear hq hc1
    go_wp2_with fail
    go_ret
    exact ⟨ret_bool Hq.out.symm, rfl⟩
  · rw [hc1, Bool.true_and] at hq
    have Hq0 := Lib.hid hq
    clear hq hc1
    go_wp2_with fail
    refine Hm2.out.mono ?_
    rintro e w' ⟨rfl, rfl⟩
    have hq := Hq0.out
    clear Hq0
    rcases hc2 : cmay s with _ | _
    · rw [hc2, Bool.false_and] at hq
      have Hq := Lib.hid hq
      clear hq hc2
      go_wp2_with fail
      go_ret
      exact ⟨ret_bool Hq.out.symm, rfl⟩
    · rw [hc2, Bool.true_and] at hq
      have Hq := Lib.hid hq
      clear hq hc2
      go_wp2_with fail
      refine Ha1.out.mono ?_
      rintro e w' ⟨rfl, rfl⟩
      go_wp2_with fail
      refine Ha2.out.mono ?_
      rintro e w' ⟨rfl, rfl⟩
      have hw : IntKind.i64.wrap ((k1 : Int) + (k2 : Int)) = ((k1 + k2 : Nat) : Int) := by rw [IntKind.wrap_i64]; omega
      by_cases hk : (k1 : Int) + (k2 : Int) ≤ 1
      · have hq := Hq.out
        rw [decide_eq_true (by omega)] at hq
        have Hq2 := Lib.hid hq
        clear hq
        go_wp2_with fail
        go_ret
        exact ⟨ret_bool Hq2.out.symm, rfl⟩
      · have hq := Hq.out
        rw [decide_eq_false (by omega)] at hq
        have Hq2 := Lib.hid hq
        have hkd : decide ((k1 : Int) + (k2 : Int) ≤ 1) = false := decide_eq_false hk
        clear hq
        go_wp2_with fail
        go_ret
        exact ⟨ret_bool Hq2.out.symm, rfl⟩
set_option maxHeartbeats 1600000 in
theorem nearR_any (A : Option Addr) (n c : Nat) (l : List Int) (B : Option Addr) (m d : Nat) (s : List Int) (w : World) {ok ok' : Nat → Prop} (hr : Rd w ok 1 A n (ii l)) (hn : n ≤ 1000000) (hs : Rd w ok' 1 B m (ii s)) (hm : m ≤ 1000000) :
    Calls Try.prog 19 #[.slice A n c, .slice B m d] w (BoolPost w (near l s)) := by
  have hm1 := mayR_any A n c l w hr hn
  have hm2 := fun (W : World) (hb : Below w.heap.size w W) => mayR_any B m d s W (hs.below hb) hm
  have hi1 := fun x => in_any B m d s x w hs hm
  have hi2 := fun x => in_any A n c l x w hr hn
  have hq : near l s = (cmay l && cmay s && decide (apart l s + apart s l ≤ 1)) := rfl
  have Hl := Lib.hid (ii_len hr)
  have Hs := Lib.hid (ii_len hs)
  have Hm1 := Lib.hid hm1
  have Hm2 := Lib.hid hm2
  have Hi1 := Lib.hid hi1
  have Hi2 := Lib.hid hi2
  have Hq0 := Lib.hid hq
  clear hm1 hm2 hi1 hi2 hq
  go_enter Try.func19, Try.ntmps19
  go_wp2_with fail
  go_loopg [5, 6] 8 (fun r s5 s6 wr => ∃ j : Nat, r = 8 - j ∧ j ≤ 8 ∧ j ≤ n ∧ s6 = .int .i64 j ∧ s5 = .int .i64 ((((l.take j).filter (aP s)).length : Nat) : Int) ∧ wr = w)
  case atStart => exact ⟨0, by omega, by omega, by omega, rfl, rfl, rfl⟩
  case round =>
    obtain ⟨j, hrm, hj8, hj, rfl, rfl, rfl⟩ := hrel
    have Hrm := Lib.hid hrm
    clear hrm
    by_cases hlt : j < n ∧ j < 8
    · obtain ⟨hlt, hlt8⟩ := hlt
      obtain ⟨b, o, x, rfl, _, _, hx, hc⟩ := ii_cell hr hlt
      have hft := filt_at (p := aP s) hx
      have hfl := filt_len (aP s) l j
      have Hft := Lib.hid hft
      have hltI : (j : Int) < n := by omega
      have hlt8I : (j : Int) < 8 := by omega
      clear hx hft
      generalize ((l.take j).filter (aP s)).length = k at hfl Hft
      go_wp2_with fail
      refine (Hi1.out x).mono ?_
      rintro e w' ⟨rfl, rfl⟩
      rcases hd : decide (x ∈ s) with _ | _
      · have hk : ((l.take (j + 1)).filter (aP s)).length = k + 1 := by rw [Hft.out, aP, hd]; rfl
        have Hk := Lib.hid hk
        clear hk hd
        go_wp2_with fail
        go_roundg (8 - (j + 1))
        case measure => have := Hrm.out; omega
        case rel => exact ⟨j + 1, rfl, by omega, by omega, by go_num, by rw [Hk.out]; go_num, rfl⟩
      · have hk : ((l.take (j + 1)).filter (aP s)).length = k := by rw [Hft.out, aP, hd]; rfl
        have Hk := Lib.hid hk
        clear hk hd
        go_wp2_with fail
        go_roundg (8 - (j + 1))
        case measure => have := Hrm.out; omega
        case rel => exact ⟨j + 1, rfl, by omega, by omega, by go_num, by rw [Hk.out], rfl⟩
    · have hfl := filt_len (aP s) l j
      have hk1 : l.length < 8 → ((l.take j).filter (aP s)).length = apart l s := by
        intro h8
        rw [List.take_of_length_le (by have := Hl.out; omega)]
        rfl
      generalize ((l.take j).filter (aP s)).length = k1 at hfl hk1
      have Hk1 := Lib.hid hk1
      have hst : ¬ ((j : Int) < n) ∨ ((j : Int) < n ∧ ¬ ((j : Int) < 8)) := by omega
      clear hk1 hlt
      rcases hst with hst | ⟨hst, hst2⟩
      all_goals
        go_wp2_with fail
        go_loopg [5, 7] 8 (fun r s5 s7 wr2 => ∃ j2 : Nat, r = 8 - j2 ∧ j2 ≤ 8 ∧ j2 ≤ m ∧ s7 = .int .i64 j2 ∧ s5 = .int .i64 ((k1 + ((s.take j2).filter (aP l)).length : Nat) : Int) ∧ wr2 = wr)
        case atStart => exact ⟨0, by omega, by omega, by omega, rfl, rfl, rfl⟩
        case round =>
          obtain ⟨i, hrm, hi8, hi, rfl, rfl, rfl⟩ := hrel
          replace Hrm := Lib.hid hrm
          clear hrm
          by_cases hlt : i < m ∧ i < 8
          · obtain ⟨hlt, hlt8⟩ := hlt
            obtain ⟨b, o, x, rfl, _, _, hx, hc⟩ := ii_cell hs hlt
            have hft := filt_at (p := aP l) hx
            have hfl2 := filt_len (aP l) s i
            have Hft := Lib.hid hft
            have hltI : (i : Int) < m := by omega
            have hlt8I : (i : Int) < 8 := by omega
            clear hx hft
            generalize ((s.take i).filter (aP l)).length = k at hfl2 Hft
            obtain ⟨kk, hkk⟩ : ∃ kk, kk = k1 + k := ⟨_, rfl⟩
            have hkl : kk ≤ 1000 := by omega
            rw [← hkk]
            go_wp2_with fail
            refine (Hi2.out x).mono ?_
            rintro e w' ⟨rfl, rfl⟩
            rcases hd : decide (x ∈ l) with _ | _
            · have hk : k1 + ((s.take (i + 1)).filter (aP l)).length = kk + 1 := by rw [Hft.out, aP, hd, hkk]; rfl
              have Hk := Lib.hid hk
              clear hk hd hkk
              go_wp2_with fail
              go_roundg (8 - (i + 1))
              case measure => have := Hrm.out; omega
              case rel => exact ⟨i + 1, rfl, by omega, by omega, by go_num, by rw [Hk.out]; go_num, rfl⟩
            · have hk : k1 + ((s.take (i + 1)).filter (aP l)).length = kk := by rw [Hft.out, aP, hd, hkk]; rfl
              have Hk := Lib.hid hk
              clear hk hd hkk
              go_wp2_with fail
              go_roundg (8 - (i + 1))
              case measure => have := Hrm.out; omega
              case rel => exact ⟨i + 1, rfl, by omega, by omega, by go_num, by rw [Hk.out], rfl⟩
          · have hfl2 := filt_len (aP l) s i
            have hk2 : s.length < 8 → ((s.take i).filter (aP l)).length = apart s l := by
              intro h8
              rw [List.take_of_length_le (by have := Hs.out; omega)]
              rfl
            generalize ((s.take i).filter (aP l)).length = k2 at hfl2 hk2
            have Hk2 := Lib.hid hk2
            have hst2 : ¬ ((i : Int) < m) ∨ ((i : Int) < m ∧ ¬ ((i : Int) < 8)) := by omega
            obtain ⟨kk, hkk⟩ : ∃ kk, kk = k1 + k2 := ⟨_, rfl⟩
            rw [← hkk]
            have Hkk := Lib.hid hkk
            clear hk2 hlt hkk
            rcases hst2 with hst2 | ⟨hst2, hst3⟩
            all_goals
              go_wp2_with fail
              refine Hm1.out.mono ?_
              rintro e w3 ⟨rfl, hb3⟩
              have hq := Hq0.out
              rcases hc1 : cmay l with _ | _
              · rw [hc1, Bool.false_and, Bool.false_and] at hq
                have Hq := Lib.hid hq
                clear hq hc1
                go_wp2_with fail
                go_ret
                exact ⟨ret_bool Hq.out.symm, hb3⟩
              · have Hc1 := Lib.hid hc1
                clear hq hc1
                go_wp2_with fail
                refine (Hm2.out _ hb3).mono ?_
                rintro e w4 ⟨rfl, hb4⟩
                have hq := Hq0.out
                rw [Hc1.out, Bool.true_and] at hq
                rcases hc2 : cmay s with _ | _
                · rw [hc2, Bool.false_and] at hq
                  have Hq := Lib.hid hq
                  clear hq hc2
                  go_wp2_with fail
                  go_ret
                  exact ⟨ret_bool Hq.out.symm, hb3.trans (hb4.mono hb3.size)⟩
                · have e1 := Hk1.out (by have := (cmay_iff.1 Hc1.out).2.2.2; omega)
                  have e2 := Hk2.out (by have := (cmay_iff.1 hc2).2.2.2; omega)
                  rw [hc2, Bool.true_and, ← e1, ← e2, ← Hkk.out] at hq
                  by_cases hk : (kk : Int) < 2
                  · rw [decide_eq_true (by omega)] at hq
                    have Hq := Lib.hid hq
                    clear hq hc2 e1 e2
                    go_wp2_with fail
                    go_ret
                    exact ⟨ret_bool Hq.out.symm, hb3.trans (hb4.mono hb3.size)⟩
                  · rw [decide_eq_false (by omega)] at hq
                    have Hq := Lib.hid hq
                    have hkd : decide ((kk : Int) < 2) = false := decide_eq_false hk
                    clear hq hc2 e1 e2
                    go_wp2_with fail
                    go_ret
                    exact ⟨ret_bool Hq.out.symm, hb3.trans (hb4.mono hb3.size)⟩
end Go.Proofs.Ytedcjakgdoiomaa
