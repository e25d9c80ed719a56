/- Walk of tollbarref02.Sum. -/
import Derived.Test.YtbcdanegcknamaaDoorSum
import Derived.Deep.DeepCutAuto
namespace Go.Proofs.YtbcdanegcknamaaDoor
open Go.RowKit
set_option linter.unusedVariables false
set_option linter.unusedSimpArgs false
set_option maxHeartbeats 1600000 in
theorem refSum_any (A : Option Addr) (n c : Nat) (l : List UInt8) (w : World) {ok : Nat → Prop} (hr : Rd w ok 1 A n (bs l)) (hn : n ≤ 9223372036854775807) :
    Calls Tryd.prog 15 #[.slice A n c] w fun e w' => e = .returned (.int .u32 (sumOf l)) ∧ Below w.heap.size w w' := by
  have hl := hr.blen
  have Hl := Lib.hid hl
  clear hl
  go_enter Tryd.func15, Tryd.ntmps15
  go_wp2_with fail
  go_loopg [3, 4, 5, 6, 7] n (fun k s3 s4 s5 s6 s7 wr => ∃ j : Nat, k = n - j ∧ j ≤ n ∧ s4 = .int .i64 j ∧ s3 = .int .u32 (crc 4294967295 (l.take j)) ∧ Below w.heap.size w wr)
  case atStart => exact ⟨0, by omega, by omega, rfl, rfl, Below.refl _ _⟩
  case round =>
    obtain ⟨j, hk, hj, rfl, rfl, hb⟩ := hrel
    have Hk := Lib.hid hk
    clear hk
    by_cases hlt : j < n
    · obtain ⟨b, o, rfl, _, hbl, hc⟩ := hr.plain (by omega) (by omega)
      have h2 := Hl.out
      have hcj := (hb.cell (p := ⟨b, o + j, none⟩) hbl).trans (hc j _ (bs_get l j (by omega)))
      have hnext : crc 4294967295 (l.take (j + 1)) = byte1 (crc 4294967295 (l.take j)) (l[j]'(by omega)).toNat := by
        rw [← crc_snoc, List.take_succ_eq_append_getElem (by omega)]
      have hy := (l[j]'(by omega)).toNat_lt
      have hx := crc_lt (l.take j) 4294967295 (by omega)
      generalize crc 4294967295 (l.take j) = x at hx hnext
      generalize (l[j]'(by omega)).toNat = y at hy hnext hcj
      rw [← refByte x y (by omega)] at hnext
      have Hn := Lib.hid hnext
      clear hnext hc h2
      obtain ⟨wo, rfl⟩ : ∃ wo, wo = wr := ⟨_, rfl⟩
      go_wp2_with fail
      go_loopg [3, 5, 6, 7] 8 (fun k s3 s5 s6 s7 wr => ∃ q : Nat, k = 8 - q ∧ q ≤ 8 ∧ s5 = .int .i64 q ∧ s3 = .int .u32 (refBits y q x) ∧ Below wo.heap.size wo wr)
      case atStart => exact ⟨0, by omega, by omega, rfl, rfl, Below.refl _ _⟩
      case round =>
        obtain ⟨q, hk, hq, rfl, rfl, hb2⟩ := hrel
        have Hk2 := Lib.hid hk
        clear hk
        by_cases hlt2 : q < 8
        · have hcr := (hb2.cell (p := ⟨b, o + j, none⟩) (by have := hb.size; simp; omega)).trans hcj
          have hbw : b < wr.heap.size := by have := hb.size; have := hb2.size; omega
          have hcr2 : ∀ ob, (wr.alloc ob).cell? ⟨b, o + j, none⟩ = some (.int .u8 (y : Int)) := fun ob => (World.cell?_alloc_lt _ _ ⟨b, o + j, none⟩ hbw).trans hcr
          have hn2 : refBits y (q + 1) x = refBit (refBits y q x) (y / 2 ^ q % 2) := rfl
          have hrl := refBits_lt y x q hx
          generalize refBits y q x = r at hn2 hrl
          have Hn2 := Lib.hid hn2
          clear hn2
          have hjn : (j : Int) < n := by omega
          have h8 : q = 0 ∨ q = 1 ∨ q = 2 ∨ q = 3 ∨ q = 4 ∨ q = 5 ∨ q = 6 ∨ q = 7 := by omega
          rcases h8 with rfl | rfl | rfl | rfl | rfl | rfl | rfl | rfl
          · by_cases hbit : r % 2 = y % 2
            · have hbx : ((r : Int) % 2 != (y : Int) % 2) = false := by simp; omega
              have hbit' : ¬ r % 2 ≠ y / 2 ^ 0 % 2 := by simpa using hbit
              have HB := Lib.hid hbit'
              clear hbit hbit'
              go_wp2_with fail
              go_region
              go_wp2_with fail
              go_roundg (8 - 1)
              case measure => have := Hk2.out; omega
              case rel => exact ⟨1, rfl, by omega, rfl, by rw [Hn2.out, refBit, if_neg HB.out]; rfl, by first | exact hb2.alloc hb2.size _ | exact (hb2.alloc hb2.size _).drew⟩
            · have hbx : ((r : Int) % 2 != (y : Int) % 2) = true := by simp; omega
              have hbit' : r % 2 ≠ y / 2 ^ 0 % 2 := by simpa using hbit
              have HB := Lib.hid hbit'
              clear hbit hbit'
              go_wp2_with fail
              go_region
              go_wp2_with fail
              go_roundg (8 - 1)
              case measure => have := Hk2.out; omega
              case rel => exact ⟨1, rfl, by omega, rfl, by rw [Hn2.out, xor_poly r hrl, refBit, if_pos HB.out], by first | exact hb2.alloc hb2.size _ | exact (hb2.alloc hb2.size _).drew⟩
          · by_cases hbit : r % 2 = y / 2 % 2
            · have hbx : ((r : Int) % 2 != (y : Int) / 2 % 2) = false := by simp; omega
              have hbit' : ¬ r % 2 ≠ y / 2 ^ 1 % 2 := by simpa using hbit
              have HB := Lib.hid hbit'
              clear hbit hbit'
              go_wp2_with fail
              go_region
              go_wp2_with fail
              go_roundg (8 - 2)
              case measure => have := Hk2.out; omega
              case rel => exact ⟨2, rfl, by omega, rfl, by rw [Hn2.out, refBit, if_neg HB.out]; rfl, by first | exact hb2.alloc hb2.size _ | exact (hb2.alloc hb2.size _).drew⟩
            · have hbx : ((r : Int) % 2 != (y : Int) / 2 % 2) = true := by simp; omega
              have hbit' : r % 2 ≠ y / 2 ^ 1 % 2 := by simpa using hbit
              have HB := Lib.hid hbit'
              clear hbit hbit'
              go_wp2_with fail
              go_region
              go_wp2_with fail
              go_roundg (8 - 2)
              case measure => have := Hk2.out; omega
              case rel => exact ⟨2, rfl, by omega, rfl, by rw [Hn2.out, xor_poly r hrl, refBit, if_pos HB.out], by first | exact hb2.alloc hb2.size _ | exact (hb2.alloc hb2.size _).drew⟩
          · by_cases hbit : r % 2 = y / 4 % 2
            · have hbx : ((r : Int) % 2 != (y : Int) / 4 % 2) = false := by simp; omega
              have hbit' : ¬ r % 2 ≠ y / 2 ^ 2 % 2 := by simpa using hbit
              have HB := Lib.hid hbit'
              clear hbit hbit'
              go_wp2_with fail
              go_region
              go_wp2_with fail
              go_roundg (8 - 3)
              case measure => have := Hk2.out; omega
              case rel => exact ⟨3, rfl, by omega, rfl, by rw [Hn2.out, refBit, if_neg HB.out]; rfl, by first | exact hb2.alloc hb2.size _ | exact (hb2.alloc hb2.size _).drew⟩
            · have hbx : ((r : Int) % 2 != (y : Int) / 4 % 2) = true := by simp; omega
              have hbit' : r % 2 ≠ y / 2 ^ 2 % 2 := by simpa using hbit
              have HB := Lib.hid hbit'
              clear hbit hbit'
              go_wp2_with fail
              go_region
              go_wp2_with fail
              go_roundg (8 - 3)
              case measure => have := Hk2.out; omega
              case rel => exact ⟨3, rfl, by omega, rfl, by rw [Hn2.out, xor_poly r hrl, refBit, if_pos HB.out], by first | exact hb2.alloc hb2.size _ | exact (hb2.alloc hb2.size _).drew⟩
          · by_cases hbit : r % 2 = y / 8 % 2
            · have hbx : ((r : Int) % 2 != (y : Int) / 8 % 2) = false := by simp; omega
              have hbit' : ¬ r % 2 ≠ y / 2 ^ 3 % 2 := by simpa using hbit
              have HB := Lib.hid hbit'
              clear hbit hbit'
              go_wp2_with fail
              go_region
              go_wp2_with fail
              go_roundg (8 - 4)
              case measure => have := Hk2.out; omega
              case rel => exact ⟨4, rfl, by omega, rfl, by rw [Hn2.out, refBit, if_neg HB.out]; rfl, by first | exact hb2.alloc hb2.size _ | exact (hb2.alloc hb2.size _).drew⟩
            · have hbx : ((r : Int) % 2 != (y : Int) / 8 % 2) = true := by simp; omega
              have hbit' : r % 2 ≠ y / 2 ^ 3 % 2 := by simpa using hbit
              have HB := Lib.hid hbit'
              clear hbit hbit'
              go_wp2_with fail
              go_region
              go_wp2_with fail
              go_roundg (8 - 4)
              case measure => have := Hk2.out; omega
              case rel => exact ⟨4, rfl, by omega, rfl, by rw [Hn2.out, xor_poly r hrl, refBit, if_pos HB.out], by first | exact hb2.alloc hb2.size _ | exact (hb2.alloc hb2.size _).drew⟩
          · by_cases hbit : r % 2 = y / 16 % 2
            · have hbx : ((r : Int) % 2 != (y : Int) / 16 % 2) = false := by simp; omega
              have hbit' : ¬ r % 2 ≠ y / 2 ^ 4 % 2 := by simpa using hbit
              have HB := Lib.hid hbit'
              clear hbit hbit'
              go_wp2_with fail
              go_region
              go_wp2_with fail
              go_roundg (8 - 5)
              case measure => have := Hk2.out; omega
              case rel => exact ⟨5, rfl, by omega, rfl, by rw [Hn2.out, refBit, if_neg HB.out]; rfl, by first | exact hb2.alloc hb2.size _ | exact (hb2.alloc hb2.size _).drew⟩
            · have hbx : ((r : Int) % 2 != (y : Int) / 16 % 2) = true := by simp; omega
              have hbit' : r % 2 ≠ y / 2 ^ 4 % 2 := by simpa using hbit
              have HB := Lib.hid hbit'
              clear hbit hbit'
              go_wp2_with fail
              go_region
              go_wp2_with fail
              go_roundg (8 - 5)
              case measure => have := Hk2.out; omega
              case rel => exact ⟨5, rfl, by omega, rfl, by rw [Hn2.out, xor_poly r hrl, refBit, if_pos HB.out], by first | exact hb2.alloc hb2.size _ | exact (hb2.alloc hb2.size _).drew⟩
          · by_cases hbit : r % 2 = y / 32 % 2
            · have hbx : ((r : Int) % 2 != (y : Int) / 32 % 2) = false := by simp; omega
              have hbit' : ¬ r % 2 ≠ y / 2 ^ 5 % 2 := by simpa using hbit
              have HB := Lib.hid hbit'
              clear hbit hbit'
              go_wp2_with fail
              go_region
              go_wp2_with fail
              go_roundg (8 - 6)
              case measure => have := Hk2.out; omega
              case rel => exact ⟨6, rfl, by omega, rfl, by rw [Hn2.out, refBit, if_neg HB.out]; rfl, by first | exact hb2.alloc hb2.size _ | exact (hb2.alloc hb2.size _).drew⟩
            · have hbx : ((r : Int) % 2 != (y : Int) / 32 % 2) = true := by simp; omega
              have hbit' : r % 2 ≠ y / 2 ^ 5 % 2 := by simpa using hbit
              have HB := Lib.hid hbit'
              clear hbit hbit'
              go_wp2_with fail
              go_region
              go_wp2_with fail
              go_roundg (8 - 6)
              case measure => have := Hk2.out; omega
              case rel => exact ⟨6, rfl, by omega, rfl, by rw [Hn2.out, xor_poly r hrl, refBit, if_pos HB.out], by first | exact hb2.alloc hb2.size _ | exact (hb2.alloc hb2.size _).drew⟩
          · by_cases hbit : r % 2 = y / 64 % 2
            · have hbx : ((r : Int) % 2 != (y : Int) / 64 % 2) = false := by simp; omega
              have hbit' : ¬ r % 2 ≠ y / 2 ^ 6 % 2 := by simpa using hbit
              have HB := Lib.hid hbit'
              clear hbit hbit'
              go_wp2_with fail
              go_region
              go_wp2_with fail
              go_roundg (8 - 7)
              case measure => have := Hk2.out; omega
              case rel => exact ⟨7, rfl, by omega, rfl, by rw [Hn2.out, refBit, if_neg HB.out]; rfl, by first | exact hb2.alloc hb2.size _ | exact (hb2.alloc hb2.size _).drew⟩
            · have hbx : ((r : Int) % 2 != (y : Int) / 64 % 2) = true := by simp; omega
              have hbit' : r % 2 ≠ y / 2 ^ 6 % 2 := by simpa using hbit
              have HB := Lib.hid hbit'
              clear hbit hbit'
              go_wp2_with fail
              go_region
              go_wp2_with fail
              go_roundg (8 - 7)
              case measure => have := Hk2.out; omega
              case rel => exact ⟨7, rfl, by omega, rfl, by rw [Hn2.out, xor_poly r hrl, refBit, if_pos HB.out], by first | exact hb2.alloc hb2.size _ | exact (hb2.alloc hb2.size _).drew⟩
          · by_cases hbit : r % 2 = y / 128 % 2
            · have hbx : ((r : Int) % 2 != (y : Int) / 128 % 2) = false := by simp; omega
              have hbit' : ¬ r % 2 ≠ y / 2 ^ 7 % 2 := by simpa using hbit
              have HB := Lib.hid hbit'
              clear hbit hbit'
              go_wp2_with fail
              go_region
              go_wp2_with fail
              go_roundg (8 - 8)
              case measure => have := Hk2.out; omega
              case rel => exact ⟨8, rfl, by omega, rfl, by rw [Hn2.out, refBit, if_neg HB.out]; rfl, by first | exact hb2.alloc hb2.size _ | exact (hb2.alloc hb2.size _).drew⟩
            · have hbx : ((r : Int) % 2 != (y : Int) / 128 % 2) = true := by simp; omega
              have hbit' : r % 2 ≠ y / 2 ^ 7 % 2 := by simpa using hbit
              have HB := Lib.hid hbit'
              clear hbit hbit'
              go_wp2_with fail
              go_region
              go_wp2_with fail
              go_roundg (8 - 8)
              case measure => have := Hk2.out; omega
              case rel => exact ⟨8, rfl, by omega, rfl, by rw [Hn2.out, xor_poly r hrl, refBit, if_pos HB.out], by first | exact hb2.alloc hb2.size _ | exact (hb2.alloc hb2.size _).drew⟩
        · obtain rfl : q = 8 := by omega
          go_wp2_with fail
          go_roundg (n - (j + 1))
          case measure => have := Hk.out; omega
          case rel => exact ⟨j + 1, rfl, by omega, by go_num, by rw [Hn.out], hb.trans (hb2.mono hb.size)⟩
    · obtain rfl : j = n := by omega
      rw [List.take_of_length_le (Nat.le_of_eq Hl.out)]
      have hx := crc_lt l 4294967295 (by omega)
      have e0 : sumOf l = not32 (crc 4294967295 l) := rfl
      generalize hxe : crc 4294967295 l = x at hx e0
      have He := Lib.hid e0
      clear hxe e0
      have e1 : (4294967295 : Int) - x = ((not32 x : Nat) : Int) := by unfold not32; omega
      have E1 := Lib.hid e1
      clear e1
      go_wp2_with fail
      go_ret
      exact ⟨by rw [He.out, ← E1.out]; rfl, hb⟩
end Go.Proofs.YtbcdanegcknamaaDoor
