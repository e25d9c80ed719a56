/- slices.BinarySearch at members. -/
import Derived.Test.YtedcjakgdoiomaaDoorConf1
import Derived.Test.YtedcjakgdoiomaaDoorLow
namespace Go.Proofs.YtedcjakgdoiomaaDoor
open Go.RowKit
set_option maxRecDepth 100000
set_option linter.unusedVariables false
set_option linter.unusedSimpArgs false
theorem nanC_any (z : Int) (w : World) : Calls Tryd.prog 39 #[.int .i64 z] w (SameBool w false) := by
  have hz : (z != z) = false := by simp
  go_enter Tryd.func39, Tryd.ntmps39
  go_wp2_with fail
  go_ret
  exact ⟨rfl, rfl⟩
theorem nanS_any (z : Int) (w : World) : Calls Tryd.prog 29 #[.int .i64 z] w (SameBool w false) := by
  have hz : (z != z) = false := by simp
  go_enter Tryd.func29, Tryd.ntmps29
  go_wp2_with fail
  go_ret
  exact ⟨rfl, rfl⟩
theorem less_any (x z : Int) (w : World) : Calls Tryd.prog 28 #[.int .i64 x, .int .i64 z] w (SameBool w (decide (x < z))) := by
  have hn := nanC_any x w
  have Hn := Lib.hid hn
  clear hn
  go_enter Tryd.func28, Tryd.ntmps28
  go_wp2_with fail
  refine Hn.out.mono ?_
  rintro e w' ⟨rfl, rfl⟩
  go_wp2_with fail
  go_ret
  exact ⟨rfl, rfl⟩
def FindPost (W : World) (z : Int) (l : List Int) (e : Ending) (w' : World) : Prop :=
  ∃ (k : Nat) (b : Bool), e = .returned (.tuple #[.int .i64 k, .bool b]) ∧ (l.Pairwise (· < ·) → k = low z l ∧ b = decide (z ∈ l)) ∧ k ≤ l.length ∧ W = w'
theorem search_any (A : Option Addr) (n c : Nat) (l : List Int) (z : Int) (w : World) {ok : Nat → Prop} (hr : Rd w ok 1 A n (ii l)) (hn : n ≤ 1000000) :
    Calls Tryd.prog 18 #[.slice A n c, .int .i64 z] w (FindPost w z l) := by
  have Hl := Lib.hid (ii_len hr)
  have hless := fun x => less_any x z w
  have Hless := Lib.hid hless
  have hnan := fun x => nanS_any x w
  have Hnan := Lib.hid hnan
  clear hless hnan
  go_enter Tryd.func18, Tryd.ntmps18
  go_wp2_with fail
  go_loopg [7, 8, 9] n (fun m s7 s8 s9 wr => ∃ i j : Nat, m = j - i ∧ i ≤ j ∧ j ≤ n ∧ s7 = .int .i64 i ∧ s8 = .int .i64 j ∧ (l.Pairwise (· < ·) → i ≤ low z l ∧ low z l ≤ j) ∧ wr = w)
  case atStart => exact ⟨0, n, by omega, by omega, by omega, rfl, rfl, fun _ => ⟨by omega, by have := low_le z l; rw [Hl.out] at this; exact this⟩, rfl⟩
  case round =>
    obtain ⟨i, j, hm, hij, hjn, rfl, rfl, hlow, rfl⟩ := hrel
    have Hm := Lib.hid hm
    have Hlow := Lib.hid hlow
    clear hm hlow
    by_cases hlt : i < j
    · obtain ⟨h, hh⟩ : ∃ h, h = (i + j) / 2 := ⟨_, rfl⟩
      have h1 : i ≤ h := by omega
      have h2 : h < j := by omega
      have hi2 : ((i : Int) + (j : Int)) / 2 = (h : Int) := by omega
      obtain ⟨b, o, x, rfl, _, _, hx, hc⟩ := ii_cell hr (show h < n by omega)
      have Hx := Lib.hid hx
      have hltI : (i : Int) < j := by omega
      have hhn : (h : Int) < n := by omega
      have hh0 : (0 : Int) ≤ h := by omega
      clear hx hh
      go_wp2_with fail
      refine (Hless.out x).mono ?_
      rintro e w' ⟨rfl, rfl⟩
      by_cases hxz : x < z
      · go_wp2_with fail
        go_roundg (j - (h + 1))
        case measure => have := Hm.out; omega
        case rel => exact ⟨h + 1, j, rfl, by omega, by omega, by go_num, rfl, fun hp => ⟨low_lt hp Hx.out hxz, (Hlow.out hp).2⟩, rfl⟩
      · have hxzd : decide (x < z) = false := decide_eq_false hxz
        go_wp2_with fail
        go_roundg (h - i)
        case measure => have := Hm.out; omega
        case rel => exact ⟨i, h, rfl, by omega, by omega, rfl, rfl, fun hp => ⟨(Hlow.out hp).1, low_ge Hx.out (by omega)⟩, rfl⟩
    · obtain rfl : i = j := by omega
      by_cases hin : i < n
      · obtain ⟨b, o, x, rfl, _, _, hx, hc⟩ := ii_cell hr hin
        have Hx := Lib.hid hx
        clear hx
        have hinI : (i : Int) < n := by omega
        by_cases hxz : x = z
        · subst hxz
          go_wp2_with fail
          go_ret2
          refine ⟨i, true, rfl, fun hp => ?_, by rw [Hl.out]; omega, rfl⟩
          have := Hlow.out hp
          exact ⟨by omega, (decide_eq_true (List.mem_of_getElem? Hx.out)).symm⟩
        · have hxzf : (x == z) = false := by simpa using hxz
          go_wp2_with fail
          refine (Hnan.out x).mono ?_
          rintro e w' ⟨rfl, rfl⟩
          go_wp2_with fail
          go_ret2
          refine ⟨i, false, rfl, fun hp => ?_, by rw [Hl.out]; omega, rfl⟩
          have := Hlow.out hp
          refine ⟨by omega, (decide_eq_false fun hm => ?_).symm⟩
          have h3 := (low_mem hp).1 hm
          rw [show low z l = i by omega, Hx.out] at h3
          exact hxz (Option.some.inj h3)
      · obtain rfl : i = n := by omega
        go_wp2_with fail
        go_ret2
        refine ⟨i, false, rfl, fun hp => ?_, by rw [Hl.out]; omega, rfl⟩
        have := Hlow.out hp
        refine ⟨by omega, (decide_eq_false fun hm => ?_).symm⟩
        have h3 := (low_mem hp).1 hm
        have := (List.getElem?_eq_some_iff.1 h3).1
        rw [Hl.out] at this
        omega
end Go.Proofs.YtedcjakgdoiomaaDoor
