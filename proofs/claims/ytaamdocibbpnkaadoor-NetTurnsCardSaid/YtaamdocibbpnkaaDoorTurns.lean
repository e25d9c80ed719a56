/- Walk of tollbarlaw18.NetTurns. -/
import Derived.Test.YtaamdocibbpnkaaDoorTurnY
import Derived.Test.YtaamdocibbpnkaaDoorNIPut
import Derived.Test.YtaamdocibbpnkaaDoorSure
import Derived.Test.YtaamdocibbpnkaaDoorNum
import Derived.BigQuiet
namespace Go.Proofs.YtaamdocibbpnkaaDoor
open Go.RowKit
set_option linter.unusedVariables false
set_option linter.unusedSimpArgs false
set_option maxRecDepth 100000
theorem items_one {l' : List Ic} {y : Ic} (h : l'.map pl = [y].map pl) : ∃ y', l' = [y'] ∧ y'.d = y.d := by
  have hl := congrArg List.length h
  match l', h, hl with
  | [y'], h, _ =>
    refine ⟨y', rfl, ?_⟩
    simp [pl] at h
    exact h.2.2.2
theorem turns_far (A : Option Addr) (n c : Nat) (z : Int) (w : World) (h : 1000 < (n : Int)) :
    Calls Tryd.prog 3 #[.slice A n c, .int .i64 z] w (YesPost w) := by
  go_enter Tryd.func3, Tryd.ntmps3
  go_wp2_with fail
  refine (new_any 3 w (by omega) (by omega)).mono ?_
  rintro e w1 ⟨rfl, hn1, hb1⟩
  clear hn1
  go_wp2_with fail
  refine (sure_any w1).mono ?_
  rintro e w2 ⟨rfl, hb2⟩
  go_wp2_with fail
  go_ret
  exact ⟨rfl, hb1.trans (hb2.mono hb1.size)⟩
set_option maxHeartbeats 1600000 in
theorem turns_out (A : Option Addr) (n c : Nat) (d : List UInt8) (z : Int) (w : World) (hg : ErrT w) (hr : Rd w (· < w.heap.size) 1 A n (bs d)) (hn : (n : Int) ≤ 1000) (hz : z < 0 ∨ (∃ m jj : Nat, z = m ∧ jj = m / 8 ∧ n ≤ jj ∧ (m : Int) ≤ 9223372036854775807)) :
    Calls Tryd.prog 3 #[.slice A n c, .int .i64 z] w (YesPost w) := by
  have hzo : z < 0 ∨ (0 ≤ z ∧ 8 * (n : Int) ≤ z) := by
    rcases hz with hz | ⟨m, jj, rfl, e, h, _⟩
    · exact .inl hz
    · right; omega
  have Hzo := Lib.hid hzo
  have Hz := Lib.hid hz
  have Hg := Lib.hid hg
  have Hr := Lib.hid hr
  clear hzo hz hg hr
  go_enter Tryd.func3, Tryd.ntmps3
  go_wp2_with fail
  refine (new_any 3 w (by omega) (by omega)).mono ?_
  rintro e w1 ⟨rfl, hn1, hb1⟩
  have hi1 := NI.made hn1
  have Hi1 := Lib.hid hi1
  clear hn1 hi1
  go_wp2_with fail
  refine (put_new (w.heap.size + 1) w.heap.size 3 0 0 _ none 0 0 [] 1 2 A n c d w1 Hi1.out.ns (by omega) (by omega) (by omega) (by omega) (by omega) rfl (Hr.out.below hb1).any (by omega) (by omega) (by omega) (by omega)).mono ?_
  intro e w2 hp
  obtain ⟨A2, c2, A3, c3, rfl, hi2, hb2⟩ := NI.put (l := []) Hi1.out (by omega) hp
  replace hb2 := hb1.trans hb2
  have Hi2 := Lib.hid hi2
  clear hp hi2 hb1 Hi1
  go_wp2_with fail
  refine (turn_out (w.heap.size + 1) w.heap.size 3 _ 0 _ A2 _ c2 _ 1 z w2 Hi2.out (by omega) 0 ⟨1, 1, 2, A3, n, c3, d⟩ (by simp) (by rfl) (by simp) Hzo.out).mono ?_
  rintro e w3 ⟨rfl, hb3⟩
  have hi3 := Hi2.out.below hb3
  replace hb3 := hb2.trans (hb3.mono hb2.size)
  have Hi3 := Lib.hid hi3
  clear hi3 hb2 Hi2
  unfold errK
  go_wp2_with fail
  refine (items_any (w.heap.size + 1) w.heap.size 3 _ 0 _ A2 _ c2 _ w3 Hi3.out.ns Hi3.out.data (by omega)).mono ?_
  rintro e w4 ⟨A4, c4, l4, rfl, hr4, hpl, hd4, hb4⟩
  obtain ⟨y, rfl, hy⟩ := items_one hpl
  have hdy := hd4 y (by simp)
  rw [hy] at hdy
  change Rd w4 _ 1 y.A y.n (bs d) at hdy
  replace hb4 := hb3.trans (hb4.mono hb3.size)
  obtain ⟨b, o, x, rfl, _, _, hx, _, _, _, hc3⟩ := ic_cells (j := 0) hr4 (by simp)
  obtain rfl : y = x := by simpa using hx
  simp only [Nat.zero_mul, Nat.add_zero] at hc3
  have hrd := Hr.out.below hb4
  have hny : y.n = n := by rw [← hdy.blen, ← hrd.blen]
  rw [hny] at hdy hc3
  have he4 := Hg.out.below hb4
  have Hdy := Lib.hid hdy.any
  have Hrd := Lib.hid hrd
  have Hb4 := Lib.hid hb4
  have He4 := Lib.hid he4
  clear hdy hrd hr4 hpl hd4 hb4 he4 hx hb3 Hi3 Hg hy
  rcases Hz.out with hz | ⟨m, jj, rfl, e, hj, hm⟩
  all_goals
    first
      | (have e1 : ((m : Int) / 8) = (jj : Int) := by omega
         have hj0 : (0 : Int) ≤ jj := by omega
         have hjn : (n : Int) ≤ jj := by omega
         have hm0 : ¬ (m : Int) < 0 := by omega
         have hwj : IntKind.i64.wrap ((jj : Nat) : Int) = (jj : Int) := by first | exact IntWalk.wrap64_in _ ⟨by omega, by omega⟩ | (simp [IntKind.wrap, IntKind.signed, IntKind.bits]; omega)
         clear e)
      | skip
    go_wp2_with fail
    refine (num_err 4 w4 He4.out).mono ?_
    rintro e w5 ⟨rfl, hb5⟩
    have hs1 := fun W => conv_bytes (P := Tryd.prog) (w := W) 22 9 5 Tryd.underlying22 Tryd.underlying5 Tryd.underlying9 (A := y.A) (n := n) (c := y.c) (l := d) (ok := T)
    have h1 := hs1 w5 (Hdy.out.below hb5)
    have h2 := conv_bytes (P := Tryd.prog) (w := w5) (c := c) 22 9 5 Tryd.underlying22 Tryd.underlying5 Tryd.underlying9 (Hrd.out.below hb5)
    clear hs1
    go_wp2_with fail
    refine (sure_any w5).mono ?_
    rintro e w6 ⟨rfl, hb6⟩
    go_wp2_with fail
    go_ret
    exact ⟨rfl, (Hb4.out.trans (hb5.mono Hb4.out.size)).trans (hb6.mono (Nat.le_trans Hb4.out.size hb5.size))⟩
end Go.Proofs.YtaamdocibbpnkaaDoor
