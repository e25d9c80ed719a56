/- Walk: the document's Quorum. -/
import Derived.Test.YtedcjakgdoiomaaConf2
namespace Go.Proofs.Ytedcjakgdoiomaa
open Go.RowKit
set_option maxRecDepth 100000
set_option linter.unusedVariables false
set_option linter.unusedSimpArgs false
theorem quorumR_any (A : Option Addr) (n c : Nat) (l : List Int) (B : Option Addr) (m d : Nat) (s : List Int) (w : World) {ok ok' : Nat → Prop} (hr : Rd w ok 1 A n (ii l)) (hn : n ≤ 1000000) (hs : Rd w ok' 1 B m (ii s)) (hm : m ≤ 1000000) :
    Calls Try.prog 16 #[.slice A n c, .slice B m d] w (BoolPost w (quor l s)) := by
  have Hl := Lib.hid (ii_len hr)
  have hhas := fun x => in_any B m d s x w hs hm
  have hmay := mayR_any A n c l w hr hn
  have Hhas := Lib.hid hhas
  have Hmay := Lib.hid hmay
  clear hhas hmay
  go_enter Try.func16, Try.ntmps16
  go_wp2_with fail
  go_loopg [5, 6] n (fun r s5 s6 wr => ∃ j : Nat, r = n - j ∧ j ≤ n ∧ s6 = .int .i64 j ∧ s5 = .int .i64 ((((l.take j).filter (cP s)).length : Nat) : Int) ∧ wr = w)
  case atStart => exact ⟨0, by omega, by omega, rfl, rfl, rfl⟩
  case round =>
    obtain ⟨j, hrm, hj, rfl, rfl, rfl⟩ := hrel
    have Hrm := Lib.hid hrm
    clear hrm
    by_cases hlt : j < n
    · obtain ⟨b, o, x, rfl, _, _, hx, hc⟩ := ii_cell hr hlt
      have hft := filt_at (p := cP s) hx
      have hfl := filt_len (cP s) l j
      have Hft := Lib.hid hft
      have hltI : (j : Int) < n := by omega
      clear hx hft
      generalize ((l.take j).filter (cP s)).length = k at hfl Hft
      go_wp2_with fail
      refine (Hhas.out x).mono ?_
      rintro e w' ⟨rfl, rfl⟩
      rcases hd : decide (x ∈ s) with _ | _
      · have hk : ((l.take (j + 1)).filter (cP s)).length = k := by rw [Hft.out, cP, hd]; rfl
        have Hk := Lib.hid hk
        clear hk hd
        go_wp2_with fail
        go_roundg (n - (j + 1))
        case measure => have := Hrm.out; omega
        case rel => exact ⟨j + 1, rfl, by omega, by go_num, by rw [Hk.out], rfl⟩
      · have hk : ((l.take (j + 1)).filter (cP s)).length = k + 1 := by rw [Hft.out, cP, hd]; rfl
        have Hk := Lib.hid hk
        clear hk hd
        go_wp2_with fail
        go_roundg (n - (j + 1))
        case measure => have := Hrm.out; omega
        case rel => exact ⟨j + 1, rfl, by omega, by go_num, by rw [Hk.out]; go_num, rfl⟩
    · obtain rfl : j = n := by omega
      have hq : quor l s = (cmay l && decide (j < 2 * ((l.take j).filter (cP s)).length)) := by
        unfold quor cnt
        rw [List.take_of_length_le (Nat.le_of_eq Hl.out), Hl.out]
        rfl
      have hfl := filt_len (cP s) l j
      generalize ((l.take j).filter (cP s)).length = k at hq hfl
      go_wp2_with fail
      refine Hmay.out.mono ?_
      rintro e w' ⟨rfl, hb⟩
      rcases hcm : cmay l with _ | _
      · rw [hcm, Bool.false_and] at hq
        have Hq := Lib.hid hq
        clear hq hcm
        go_wp2_with fail
        go_ret
        exact ⟨ret_bool (by rw [Hq.out]), hb⟩
      · rw [hcm, Bool.true_and] at hq
        have hw2 : IntKind.i64.wrap (2 * (k : Int)) = 2 * (k : Int) := by rw [IntKind.wrap_i64]; omega
        by_cases hgt : (j : Int) < 2 * (k : Int)
        · have hq2 : quor l s = true := by rw [hq]; exact decide_eq_true (by omega)
          have Hq := Lib.hid hq2
          clear hq hq2 hcm
          go_wp2_with fail
          go_ret
          exact ⟨ret_bool (by rw [Hq.out]), hb⟩
        · have hq2 : quor l s = false := by rw [hq]; exact decide_eq_false (by omega)
          have Hq := Lib.hid hq2
          have hgd : decide ((j : Int) < 2 * (k : Int)) = false := decide_eq_false hgt
          clear hq hq2 hcm
          go_wp2_with fail
          go_ret
          exact ⟨ret_bool (by rw [Hq.out]), hb⟩
end Go.Proofs.Ytedcjakgdoiomaa
