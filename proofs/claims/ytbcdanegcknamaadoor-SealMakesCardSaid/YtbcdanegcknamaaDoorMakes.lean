/- Walk of tollbarlaw02.SealMakes. -/
import Derived.Test.YtbcdanegcknamaaDoorRefSeal
import Derived.Test.YtbcdanegcknamaaDoorSure2
import Derived.Test.YtbcdanegcknamaaDoorNum
namespace Go.Proofs.YtbcdanegcknamaaDoor
open Go.RowKit
set_option linter.unusedVariables false
set_option linter.unusedSimpArgs false
theorem makes_long (kI : Int) (A : Option Addr) (n c : Nat) (w : World) (h : 20000 < (n : Int)) :
    Calls Tryd.prog 3 #[.int .u8 kI, .slice A n c] w (YesPost w) := by
  go_enter Tryd.func3, Tryd.ntmps3
  go_wp2_with fail
  refine (sure_any _).mono ?_
  rintro e w4 ⟨rfl, hb4⟩
  go_wp2_with fail
  go_ret
  exact ⟨rfl, hb4⟩
set_option maxHeartbeats 800000 in
theorem makes_zero (A : Option Addr) (n c : Nat) (w : World) (hg : ErrT w) (hn : (n : Int) ≤ 20000) :
    Calls Tryd.prog 3 #[.int .u8 0, .slice A n c] w (YesPost w) := by
  have Hg := Lib.hid hg
  clear hg
  go_enter Tryd.func3, Tryd.ntmps3
  go_wp2_with fail
  refine (seal_bad 0 A n c w 1 (.inl ⟨rfl, rfl⟩)).mono ?_
  rintro e w1 ⟨A1, n1, c1, rfl, hown1, hb1⟩
  go_wp2_with fail
  refine (refSeal_bad 0 A n c w1 1 (.inl ⟨rfl, rfl⟩)).mono ?_
  rintro e w2 ⟨A2, n2, c2, rfl, hown2, hb2⟩
  have r1 := Rd.of_own (own_below hown1 hb2)
  have r2 := Rd.of_own hown2
  have hb := hb1.trans (hb2.mono hb1.size)
  clear hb1 hb2 hown1 hown2
  go_wp2_with fail
  refine (num_err 1 w2 (Hg.out.below hb)).mono ?_
  rintro e w3 ⟨rfl, hb3⟩
  have e1 := cv (r1.below hb3) c1
  have e2 := cv (r2.below hb3) c2
  replace hb := hb.trans (hb3.mono hb.size)
  clear hb3
  go_wp2_with fail
  refine (sure_any _).mono ?_
  rintro e w4 ⟨rfl, hb4⟩
  go_wp2_with fail
  go_ret
  exact ⟨rfl, hb.trans (hb4.mono hb.size)⟩
set_option maxHeartbeats 800000 in
theorem makes_walk (kind : UInt8) (A : Option Addr) (n c : Nat) (b : List UInt8) (w : World) (hk : ((kind.toNat : Int) == 0) = false) (hr : Rd w T 1 A n (bs b)) (hn : (n : Int) ≤ 20000) :
    Calls Tryd.prog 3 #[.int .u8 kind.toNat, .slice A n c] w (YesPost w) := by
  have hl := hr.blen
  have hbl : b.length ≤ 1000000 := by omega
  clear hl
  go_enter Tryd.func3, Tryd.ntmps3
  go_wp2_with fail
  refine (seal_ok kind A n c b w hr (by omega) hk).mono ?_
  rintro e w1 ⟨A1, n1, c1, rfl, hown1, hb1⟩
  go_wp2_with fail
  refine (refSeal_ok kind A n c b w1 (hr.below hb1) (by omega) hk).mono ?_
  rintro e w2 ⟨A2, n2, c2, rfl, hown2, hb2⟩
  have hk1 := own_le hown1
  have r1 := Rd.of_own (own_below hown1 hb2)
  have r2 := Rd.of_own hown2
  have hb := hb1.trans (hb2.mono hb1.size)
  clear hb1 hb2 hown1 hown2
  go_wp2_with fail
  refine (num_nil w2).mono ?_
  rintro e w3 ⟨rfl, hb3⟩
  replace r1 := r1.below hb3
  have e1 := cv r1 c1
  have e2 := cv (r2.below hb3) c2
  replace hb := hb.trans (hb3.mono hb.size)
  clear hb3
  go_wp2_with fail
  refine (open_sealed kind A1 n1 c1 b w3 r1 hk1 hbl hk).mono ?_
  rintro e w4 ⟨A4, n4, c4, rfl, r4, hb4⟩
  replace hb := hb.trans (hb4.mono hb.size)
  have e3 := cv r4 c4
  have e4 := cv (hr.below hb) c
  clear hb4 e1 e2
  go_wp2_with fail
  refine (sure_any _).mono ?_
  rintro e w5 ⟨rfl, hb5⟩
  go_wp2_with fail
  go_ret
  exact ⟨rfl, hb.trans (hb5.mono hb.size)⟩
end Go.Proofs.YtbcdanegcknamaaDoor
