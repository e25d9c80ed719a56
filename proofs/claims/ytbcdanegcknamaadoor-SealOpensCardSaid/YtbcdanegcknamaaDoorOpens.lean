/- Walk of tollbarlaw02.SealOpens. -/
import Derived.Test.YtbcdanegcknamaaDoorRefOpen
import Derived.Test.YtbcdanegcknamaaDoorNum
namespace Go.Proofs.YtbcdanegcknamaaDoor
open Go.RowKit
set_option linter.unusedVariables false
set_option linter.unusedSimpArgs false
theorem opens_far (A : Option Addr) (n c : Nat) (w : World) (h : 20000 < (n : Int)) :
    Calls Tryd.prog 4 #[.slice A n c] w (YesPost w) := by
  go_enter Tryd.func4, Tryd.ntmps4
  go_wp2_with fail
  refine (sure_any _).mono ?_
  rintro e w4 ⟨rfl, hb4⟩
  go_wp2_with fail
  go_ret
  exact ⟨rfl, hb4⟩
set_option maxHeartbeats 800000 in
theorem opens_core (A : Option Addr) (n c : Nat) (w : World) (hg : ErrT w) (hn : (n : Int) ≤ 20000) (k : UInt8) (l : List UInt8) (K : Int)
    (h1 : Calls Tryd.prog 10 #[.slice A n c] w (OpenPost w k l (errV K)))
    (h2 : ∀ W, Below w.heap.size w W → Calls Tryd.prog 11 #[.slice A n c] W (OpenPost W k l (.int .i64 K))) :
    Calls Tryd.prog 4 #[.slice A n c] w (YesPost w) := by
  have Hg := Lib.hid hg
  have H1 := Lib.hid h1
  have H2 := Lib.hid h2
  clear hg h1 h2
  go_enter Tryd.func4, Tryd.ntmps4
  go_wp2_with fail
  refine H1.out.mono ?_
  rintro e w1 ⟨A1, n1, c1, rfl, r1, hb1⟩
  go_wp2_with fail
  refine (H2.out w1 hb1).mono ?_
  rintro e w2 ⟨A2, n2, c2, rfl, r2, hb2⟩
  have e1 := cv (r1.below hb2) c1
  have e2 := cv r2 c2
  have hb := hb1.trans (hb2.mono hb1.size)
  replace r1 := r1.below hb2
  clear hb1 hb2
  go_wp2_with fail
  refine (num_any K w2 (Hg.out.below hb)).mono ?_
  rintro e w3 ⟨rfl, hb3⟩
  replace hb := hb.trans (hb3.mono hb.size)
  clear hb3 e1 e2
  go_wp2_with fail
  refine (sure_any _).mono ?_
  rintro e w4 ⟨rfl, hb4⟩
  go_wp2_with fail
  go_ret
  exact ⟨rfl, hb.trans (hb4.mono hb.size)⟩
theorem opens_walk (A : Option Addr) (n c : Nat) (b : List UInt8) (w : World) (hg : ErrT w) (hr : Rd w T 1 A n (bs b)) (hc : n ≤ c) (hn : (n : Int) ≤ 20000) :
    Calls Tryd.prog 4 #[.slice A n c] w (YesPost w) := by
  by_cases h5 : (n : Int) < 5
  · refine opens_core A n c w hg hn 0 [] 12 ?_ (fun W _ => refOpen_short A n c W h5)
    exact open_short A n c w h5
  · obtain ⟨bb, o, rfl, _⟩ := hr.plain (by omega) (by omega)
    obtain ⟨m, rfl⟩ : ∃ m, n = m + 4 := ⟨n - 4, by omega⟩
    by_cases h1 : tailOf (sumOf (b.take m)) = b.drop m
    · rcases Bool.eq_false_or_eq_true (((b.getD 0 0).toNat : Int) == 0) with h2 | h2
      · exact opens_core _ _ c w hg hn 0 [] 1 (open_long bb o m c b w hr (by omega) hc (by omega) _ _ _ (.inr (.inl ⟨h1, h2, rfl, rfl, rfl⟩)))
          (fun W hb => refOpen_long bb o m c b W (hr.below hb) (by omega) hc (by omega) _ _ _ (.inr (.inl ⟨h1, h2, rfl, rfl, rfl⟩)))
      · exact opens_core _ _ c w hg hn _ _ 0 (open_long bb o m c b w hr (by omega) hc (by omega) _ _ _ (.inr (.inr ⟨h1, h2, rfl, rfl, rfl⟩)))
          (fun W hb => refOpen_long bb o m c b W (hr.below hb) (by omega) hc (by omega) _ _ _ (.inr (.inr ⟨h1, h2, rfl, rfl, rfl⟩)))
    · exact opens_core _ _ c w hg hn 0 [] 11 (open_long bb o m c b w hr (by omega) hc (by omega) _ _ _ (.inl ⟨h1, rfl, rfl, rfl⟩))
        (fun W hb => refOpen_long bb o m c b W (hr.below hb) (by omega) hc (by omega) _ _ _ (.inl ⟨h1, rfl, rfl, rfl⟩))
end Go.Proofs.YtbcdanegcknamaaDoor
