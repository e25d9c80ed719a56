/- Walk of the law's ints: are two lists of numbers the same? -/
import Derived.Test.YtedcjakgdoiomaaDoorConf1
import Derived.RegionTactic
namespace Go.Proofs.YtedcjakgdoiomaaDoor
open Go.RowKit
set_option linter.unusedVariables false
set_option linter.unusedSimpArgs false
set_option maxRecDepth 100000
theorem ints_short (A : Option Addr) (n c : Nat) (B : Option Addr) (m d : Nat) (w : World) (h : ((n : Int) != (m : Int)) = true) :
    Calls Tryd.prog 14 #[.slice A n c, .slice B m d] w (BoolPost w false) := by
  go_enter Tryd.func14, Tryd.ntmps14
  go_wp2_with fail
  go_ret
  exact ⟨rfl, Below.refl _ _⟩
set_option maxHeartbeats 800000 in
theorem ints_same (A : Option Addr) (n c : Nat) (B : Option Addr) (d : Nat) (xs ys : List Int) (w : World) {ok ok' : Nat → Prop} (hx : Rd w ok 1 A n (ii xs)) (hy : Rd w ok' 1 B n (ii ys)) (hn : n ≤ 9223372036854775807) :
    Calls Tryd.prog 14 #[.slice A n c, .slice B n d] w (BoolPost w (decide (xs = ys))) := by
  have hlx : xs.length = n := by have := hx.1; simpa [ii] using this
  have hly : ys.length = n := by have := hy.1; simpa [ii] using this
  have Hlx := Lib.hid hlx
  have Hly := Lib.hid hly
  have hne : ((n : Int) != (n : Int)) = false := by simp
  clear hlx hly
  go_enter Tryd.func14, Tryd.ntmps14
  go_wp2_with fail
  go_loopg [5] n (fun k s5 wr => ∃ j : Nat, k = n - j ∧ j ≤ n ∧ s5 = .int .i64 j ∧ xs.take j = ys.take j ∧ Below w.heap.size w wr)
  case atStart => exact ⟨0, by omega, by omega, rfl, rfl, Below.refl _ _⟩
  case round =>
    obtain ⟨j, hk, hj, rfl, heq, hb⟩ := hrel
    have Hk := Lib.hid hk
    have Heq := Lib.hid heq
    clear hk heq
    by_cases hlt : j < n
    · obtain ⟨b1, o1, z1, rfl, _, _, hz1, hc1⟩ := ii_cell (hx.below hb) hlt
      obtain ⟨b2, o2, z2, rfl, _, _, hz2, hc2⟩ := ii_cell (hy.below hb) hlt
      have Hz1 := Lib.hid hz1
      have Hz2 := Lib.hid hz2
      clear hz1 hz2
      have hjn : (j : Int) < n := by omega
      have h0j : (0 : Int) ≤ j := by omega
      by_cases hzz : z1 = z2
      · subst hzz
        have hs : xs.take (j + 1) = ys.take (j + 1) := by rw [List.take_add_one, List.take_add_one, Hz1.out, Hz2.out, Heq.out]
        have Hs := Lib.hid hs
        have hzf : ((z1 : Int) != z1) = false := by simp
        clear hs
        go_wp2_with fail
        go_region
        all_goals
          go_wp2_with fail
          go_roundg (n - (j + 1))
          case measure => have := Hk.out; omega
          case rel => exact ⟨j + 1, rfl, by omega, by go_num, Hs.out, hb.drew⟩
      · have hzf : ((z1 : Int) != z2) = true := by simpa using hzz
        have hne2 : decide (xs = ys) = false := decide_eq_false (by
          intro h
          subst h
          rw [Hz1.out] at Hz2
          exact hzz (Option.some.inj Hz2.out))
        have Hne2 := Lib.hid hne2
        clear hne2 hzz
        go_wp2_with fail
        go_region
        all_goals
          go_wp2_with fail
          go_ret
          exact ⟨ret_bool Hne2.out.symm, hb.drew⟩
    · obtain rfl : j = n := by omega
      have hyes : decide (xs = ys) = true := decide_eq_true (by
        have := Heq.out
        rwa [List.take_of_length_le (Nat.le_of_eq Hlx.out), List.take_of_length_le (Nat.le_of_eq Hly.out)] at this)
      have Hyes := Lib.hid hyes
      clear hyes
      go_wp2_with fail
      go_ret
      exact ⟨ret_bool Hyes.out.symm, hb⟩
theorem ints_any (A : Option Addr) (n c : Nat) (B : Option Addr) (m d : Nat) (xs ys : List Int) (w : World) {ok ok' : Nat → Prop} (hx : Rd w ok 1 A n (ii xs)) (hy : Rd w ok' 1 B m (ii ys)) (hn : n ≤ 9223372036854775807) :
    Calls Tryd.prog 14 #[.slice A n c, .slice B m d] w (BoolPost w (decide (xs = ys))) := by
  have hlx : xs.length = n := by have := hx.1; simpa [ii] using this
  have hly : ys.length = m := by have := hy.1; simpa [ii] using this
  by_cases h : n = m
  · subst h
    exact ints_same A n c B d xs ys w hx hy hn
  · rw [decide_eq_false (fun e => h (by rw [← hlx, ← hly, e]))]
    exact ints_short A n c B m d w (by simp; omega)
end Go.Proofs.YtedcjakgdoiomaaDoor
