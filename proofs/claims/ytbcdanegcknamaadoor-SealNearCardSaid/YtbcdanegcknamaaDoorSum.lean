/- Walks of seal.step, seal.More, seal.Sum. -/
import Derived.Test.YtbcdanegcknamaaDoorRows
import Derived.Test.YtbcdanegcknamaaDoorBox
import Derived.Test.YtbcdanegcknamaaDoorCrc
import Derived.Deep.LoopGhost
namespace Go.Proofs.YtbcdanegcknamaaDoor
open Go.RowKit
set_option linter.unusedVariables false
set_option linter.unusedSimpArgs false
theorem and_poly : bits .and .u32 2197175160 4294967295 = 2197175160 := by
  have := u32_and_nat 2197175160 4294967295 (by omega) (by omega)
  exact this.trans (by decide)
theorem and_zero : bits .and .u32 2197175160 0 = 0 := by
  have := u32_and_nat 2197175160 0 (by omega) (by omega)
  exact this.trans (by decide)
theorem xor_poly (y : Nat) (h : y < 4294967296) : bits .xor .u32 ((y : Int) / 2) 2197175160 = ((y / 2 ^^^ 2197175160 : Nat) : Int) := by
  have := u32_xor_nat (y / 2) 2197175160 (by omega) (by omega)
  rw [← this]
  rfl
theorem xor_zero (y : Nat) (h : y < 4294967296) : bits .xor .u32 ((y : Int) / 2) 0 = ((y / 2 : Nat) : Int) := by
  have := u32_xor_nat (y / 2) 0 (by omega) (by omega)
  rw [Nat.xor_zero] at this
  rw [← this]
  rfl
theorem step_any (s c : Nat) (w : World) (hs : s < 4294967296) (hc : c < 256) :
    Calls Tryd.prog 23 #[.int .u32 s, .int .u8 c] w fun e w' => e = .returned (.int .u32 (byte1 s c)) ∧ w' = w := by
  have hx : bits .xor .u32 (s : Int) (c : Int) = ((s ^^^ c : Nat) : Int) := u32_xor_nat s c hs (by omega)
  obtain ⟨x, hx2⟩ : ∃ x, x = s ^^^ c := ⟨_, rfl⟩
  have hxl : x < 4294967296 := by rw [hx2]; exact Nat.xor_lt_two_pow (n := 32) (by omega) (by omega)
  rw [← hx2] at hx
  have e0 : byte1 s c = bits8 8 x := by rw [hx2]; rfl
  rw [e0]
  have Hx := Lib.hid hx2
  clear hx2 e0
  go_enter Tryd.func23, Tryd.ntmps23
  go_wp2_with fail
  go_loopg [0, 5, 10] 8 (fun k s0 s5 s10 wr => ∃ j : Nat, k = 8 - j ∧ j ≤ 8 ∧ s10 = .int .i64 j ∧ s0 = .int .u32 (bits8 j x) ∧ wr = w)
  case atStart => exact ⟨0, by omega, by omega, rfl, rfl, rfl⟩
  case round =>
    obtain ⟨j, hk, hj, rfl, rfl, rfl⟩ := hrel
    have Hk := Lib.hid hk
    clear hk
    by_cases hlt : j < 8
    · have hyl := bits8_lt j x hxl
      have hnext : bits8 (j + 1) x = bit1 (bits8 j x) := rfl
      generalize bits8 j x = y at hyl hnext
      have Hn := Lib.hid hnext
      clear hnext
      have hand : bits .and .u32 (y : Int) 1 = ((y % 2 : Nat) : Int) := by
        have := u32_and_nat y 1 hyl (by omega)
        rw [Nat.and_one_is_mod] at this
        exact this
      by_cases hodd : y % 2 = 1
      · rw [hodd] at hand
        go_wp2_with fail
        go_roundg (8 - (j + 1))
        case measure => have := Hk.out; omega
        case rel => exact ⟨j + 1, rfl, by omega, by go_num, by rw [Hn.out, and_poly, xor_poly y hyl, bit1, if_pos hodd], rfl⟩
      · have heven : y % 2 = 0 := by omega
        rw [heven] at hand
        go_wp2_with fail
        go_roundg (8 - (j + 1))
        case measure => have := Hk.out; omega
        case rel => exact ⟨j + 1, rfl, by omega, by go_num, by rw [Hn.out, and_zero, xor_zero y hyl, bit1, if_neg hodd], rfl⟩
    · obtain rfl : j = 8 := by omega
      go_wp2_with fail
      go_ret
      exact ⟨rfl, rfl⟩

theorem xor_ones (x : Nat) (h : x < 4294967296) : 4294967295 ^^^ x = not32 x := by
  have h1 : (BitVec.allOnes 32 ^^^ BitVec.ofNat 32 x).toNat = (~~~ BitVec.ofNat 32 x).toNat := by rw [BitVec.not_def]
  rw [BitVec.toNat_xor, BitVec.toNat_not, BitVec.toNat_allOnes, BitVec.toNat_ofNat, Nat.mod_eq_of_lt (by simpa using h)] at h1
  exact h1
theorem not_u32 (x : Nat) (h : x < 4294967296) : bits .xor .u32 IntKind.u32.max (x : Int) = ((not32 x : Nat) : Int) := by
  have h1 := u32_xor_nat 4294967295 x (by omega) h
  rw [xor_ones x h] at h1
  exact h1
theorem more_any (s : Nat) (A : Option Addr) (n c : Nat) (l : List UInt8) (w : World) {ok : Nat → Prop} (hs : s < 4294967296) (hr : Rd w ok 1 A n (bs l)) (hn : n ≤ 9223372036854775807) :
    Calls Tryd.prog 18 #[.int .u32 s, .slice A n c] w fun e w' => e = .returned (.int .u32 (not32 (crc (not32 s) l))) ∧ w' = w := by
  have hl := hr.blen
  have Hl := Lib.hid hl
  clear hl
  have en := not_u32 s hs
  go_enter Tryd.func18, Tryd.ntmps18
  go_wp2_with fail
  clear en
  go_loopg [0, 6, 11] n (fun k s0 s6 s11 wr => ∃ j : Nat, k = n - j ∧ j ≤ n ∧ s11 = .int .i64 j ∧ s0 = .int .u32 (crc (not32 s) (l.take j)) ∧ wr = w)
  case atStart => exact ⟨0, by omega, by omega, rfl, by simp [crc], rfl⟩
  case round =>
    obtain ⟨j, hk, hj, rfl, rfl, rfl⟩ := hrel
    have Hk := Lib.hid hk
    clear hk
    by_cases hlt : j < n
    · obtain ⟨b, o, rfl, _, _, hc⟩ := hr.plain (by omega) (by omega)
      have h2 := Hl.out
      have hcj := hc j _ (bs_get l j (by omega))
      have hnext : crc (not32 s) (l.take (j + 1)) = byte1 (crc (not32 s) (l.take j)) (l[j]'(by omega)).toNat := by
        rw [← crc_snoc, List.take_succ_eq_append_getElem (by omega)]
      have hb := (l[j]'(by omega)).toNat_lt
      have hx := crc_lt (l.take j) (not32 s) (not32_lt s)
      generalize crc (not32 s) (l.take j) = x at hx hnext
      generalize (l[j]'(by omega)).toNat = y at hb hnext hcj
      have Hn := Lib.hid hnext
      clear hnext hc h2
      go_wp2_with fail
      refine (step_any x y _ hx (by omega)).mono ?_
      rintro e w' ⟨rfl, rfl⟩
      go_wp2_with fail
      go_roundg (n - (j + 1))
      case measure => have := Hk.out; omega
      case rel => exact ⟨j + 1, rfl, by omega, by go_num, by rw [Hn.out], rfl⟩
    · obtain rfl : j = n := by omega
      rw [List.take_of_length_le (Nat.le_of_eq Hl.out)]
      have hx := crc_lt l (not32 s) (not32_lt s)
      generalize hxe : crc (not32 s) l = x at hx
      have Hx := Lib.hid hxe
      clear hxe
      have en := not_u32 x hx
      go_wp2_with fail
      go_ret
      exact ⟨by rw [Hx.out]; rfl, rfl⟩
theorem sum_any (A : Option Addr) (n c : Nat) (l : List UInt8) (w : World) {ok : Nat → Prop} (hr : Rd w ok 1 A n (bs l)) (hn : n ≤ 9223372036854775807) :
    Calls Tryd.prog 12 #[.slice A n c] w fun e w' => e = .returned (.int .u32 (sumOf l)) ∧ w' = w := by
  have h0 := more_any 0 A n c l w (by omega) hr hn
  have e0 : not32 (crc (not32 0) l) = sumOf l := rfl
  rw [e0] at h0
  go_enter Tryd.func12, Tryd.ntmps12
  go_wp2_with fail
  refine h0.mono ?_
  rintro e w' ⟨rfl, rfl⟩
  go_wp2_with fail
  go_ret
  exact ⟨rfl, rfl⟩
end Go.Proofs.YtbcdanegcknamaaDoor
