/- Walk of tollbarlaw12.ChunkBack. -/
import Derived.Test.YtcdneioaifmilaaSure
import Derived.Test.YtcdneioaifmilaaOpen
import Derived.Test.YtcdneioaifmilaaArith
import Derived.Test.YtcdneioaifmilaaBox
import Derived.Deep.LoopGhost
namespace Go.Proofs.Ytcdneioaifmilaa
open Go.RowKit
set_option linter.unusedVariables false
set_option linter.unusedSimpArgs false
/-- The pieces from place i on. -/
theorem take_pieces (t : List UInt8) (k j : Nat) (hk : 1 ≤ k) : t.take (j * k) ++ (t.drop (j * k)).take k = t.take ((j + 1) * k) := by
  rw [Nat.add_mul, Nat.one_mul, List.take_add]
def BackRel (w wr : World) (A1 : Option Addr) (n1 k1 : Nat) (l : List UInt8) : Prop := wr.ownsRow w.heap.size 5 1 (.slice A1 n1 k1) n1 (bs l) ∧ Below w.heap.size w wr ∧ n1 ≤ k1
set_option maxRecDepth 100000 in
set_option maxHeartbeats 800000 in
theorem back_long (A : Option Addr) (n c : Nat) (size : Int) (w : World) (hn : n ≤ 9223372036854775807) (hs : I64 size) (hl : 2000 < (n : Int)) :
   Calls Try.prog 6 #[.slice A n c, .int .i64 size] w (YesPost w) := by
  unfold I64 at hs
  obtain ⟨K, hK1, hK2, -, e⟩ := one_uint_mod size 20 20 rfl (by omega) (by omega)
  go_enter Try.func6, Try.ntmps6
  go_wp2_with fail
  refine (pieces_ok A n c K w hn (by omega) (by omega)).mono ?_
  rintro e' w' ⟨rfl, rfl⟩
  clear e
  go_wp2_with fail
  refine (sure_any _).mono ?_
  rintro e w4 ⟨rfl, hb4⟩
  go_wp2_with fail
  go_ret
  exact ⟨rfl, hb4⟩
set_option maxRecDepth 100000 in
set_option maxHeartbeats 800000 in
theorem back_walk (A : Option Addr) (n c : Nat) (t : List UInt8) (size : Int) (w : World) (hr : Rd w T 1 A n (bs t)) (hnc : n ≤ c) (hl : (n : Int) ≤ 2000) (hs : I64 size) :
   Calls Try.prog 6 #[.slice A n c, .int .i64 size] w (YesPost w) := by
  unfold I64 at hs
  obtain ⟨K, hK1, hK2, -, e⟩ := one_uint_mod size 20 20 rfl (by omega) (by omega)
  obtain ⟨N, hN⟩ : ∃ N, N = (n - 1) / K + 1 := ⟨_, rfl⟩
  have HN := Lib.hid hN
  have hb0 : BackRel w w none 0 0 [] := ⟨own_nil _ _ _ _ _ rfl, Below.refl _ _, Nat.le_refl _⟩
  go_enter Try.func6, Try.ntmps6
  go_wp2_with fail
  refine (pieces_ok A n c K w (by omega) (by omega) (by omega)).mono ?_
  rintro e' w' ⟨rfl, rfl⟩
  rw [← hN]
  have hN2 : N ≤ 2001 := by
    have h1 := Nat.div_le_self (n - 1) K
    omega
  clear hN
  go_wp2_with fail
  go_loopg [8, 9] N (fun k s8 s9 wr => ∃ (j : Nat) (A1 : Option Addr) (n1 k1 : Nat), j ≤ N ∧ k = N - j ∧ s9 = .int .i64 j ∧ s8 = .slice A1 n1 k1 ∧ BackRel w' wr A1 n1 k1 (t.take (j * K)))
  case atStart => exact ⟨0, none, 0, 0, by omega, by omega, rfl, rfl, by simpa using hb0⟩
  case round =>
    obtain ⟨j, A1, n1, k1, hj, hk, rfl, rfl, hown, hb, hk1⟩ := hrel
    have Hk := Lib.hid hk
    clear hk hb0
    have hln := hr.blen
    have r1 := Rd.of_own hown
    have l1 := r1.blen
    have Hl1 := Lib.hid l1
    have Hln := Lib.hid hln
    clear l1 hln
    by_cases hlt : j < N
    · have hjk : j * K = n1 ∧ (n1 < n ∨ n1 = n ∧ n1 = 0) ∧ (decide (n ≤ n1 + K) = decide (j + 1 = N)) ∧ (((j : Int) == (N : Int) - 1) = decide (j + 1 = N)) := by
        have h1 := Hl1.out
        have h2 := Hln.out
        have h3 := HN.out
        rw [List.length_take, h2] at h1
        have h4 : j ≤ (n - 1) / K := by omega
        have h5 : j * K ≤ n - 1 := Nat.le_trans (Nat.mul_le_mul_right K h4) (Nat.div_mul_le_self _ _)
        have h6 : (j + 1) * K = j * K + K := by rw [Nat.add_mul, Nat.one_mul]
        refine ⟨by omega, by omega, ?_, by rw [Bool.eq_iff_iff]; simp; omega⟩
        have h7 : n ≤ n1 + K ↔ j + 1 = N := by
          constructor
          · intro h
            have : (n - 1) / K < j + 1 := (Nat.div_lt_iff_lt_mul (by omega)).2 (by omega)
            omega
          · intro h
            have : (n - 1) / K < j + 1 := by omega
            have := (Nat.div_lt_iff_lt_mul (by omega)).1 this
            omega
        simp [h7]
      obtain ⟨q1, q2, q3, q4⟩ := hjk
      generalize decide (j + 1 = N) = bl at q3 q4
      have Q1 := Lib.hid q1
      have Q3 := Lib.hid q3
      clear q1 q3
      have hz := hb.size
      go_wp2_with fail
      refine (cut_at A n c t n1 K _ _ wr (hr.below hb) hnc (by omega) (by omega) (by omega) (by omega) rfl rfl).mono ?_
      rintro e' w1 ⟨A2, n2, k2, rfl, r2, h2, hb1⟩
      rw [Q3.out]
      have l2 := r2.blen
      have hn2 : n2 ≤ K := by rw [← l2]; simp [List.length_take]; omega
      have hn3 : n1 + n2 ≤ 4000 := by omega
      have hys : bs (t.take (j * K)) ++ bs ((t.drop n1).take K) = bs (t.take ((j + 1) * K)) := by
        rw [← bs_append, ← Q1.out, take_pieces t K j (by omega)]
      have Hys := Lib.hid hys
      clear l2 hys
      have hz1 := hb1.size
      have hown1 := own_below hown hb1
      go_wp2_with (at_builtin; go_must (refine wpList_append_any _ Try.underlying23 u8_elem rfl (by omega) rfl rfl rfl hown1 rfl r2 (bs_one _) (by omega) (by omega) rfl Hys.out ?_); intro A3 k3 w2 hown2 hg2 hat2)
      go_roundg (N - (j + 1))
      case measure => have := Hk.out; omega
      case rel =>
        obtain ⟨_, _, e1, hk3, _⟩ := own_form hown2
        injection e1 with _ _ e1
        exact ⟨j + 1, A3, n1 + n2, k3, by omega, rfl, by go_num, rfl, hown2, (hb.trans (hb1.mono hz)).grown hg2 (by omega) (fun g hg => (own_lt hown1 g hg).1), by omega⟩
    · have ht : t.take (j * K) = t := by
        have h2 := Hln.out
        have h3 := HN.out
        obtain rfl : j = N := by omega
        apply List.take_of_length_le
        rw [h2]
        have := (Nat.div_lt_iff_lt_mul (x := n - 1) (y := j) (k := K) (by omega)).1 (by omega)
        omega
      rw [ht] at r1
      have e1 := cv r1 k1
      have e2 := cv (hr.below hb) c
      have hd : decide (j < N) = false := by simp; omega
      go_wp2_with fail
      refine (sure_any _).mono ?_
      rintro e w4 ⟨rfl, hb4⟩
      go_wp2_with fail
      go_ret
      exact ⟨rfl, hb.trans (hb4.mono hb.size)⟩
end Go.Proofs.Ytcdneioaifmilaa
