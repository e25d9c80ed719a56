/- NetRuns where the limit is none: nothing of a nil net. (Printed by mkrunb.py.) -/
import Derived.Test.YtckpinnnmafdgaaDoorRunI
namespace Go.Proofs.YtckpinnnmafdgaaDoor
open Go.RowKit
set_option maxRecDepth 100000
set_option linter.unusedVariables false
set_option linter.unusedSimpArgs false
set_option maxHeartbeats 3200000 in
theorem runs_bad (lim : Int) (v : Value) (w : World) (hg : ErrT w) (h : lim < 1 ∨ 4096 < lim) : Calls Tryd.prog 3 #[.int .i64 lim, v] w (YesPost w) := by
  have hw0 := hg.lt
  have hnum : ∀ W, Below w.heap.size w W → Calls Tryd.prog 9 #[.iface 61 (.int .i64 1)] W fun e w' => e = .returned (.int .i64 1) ∧ Below W.heap.size W w' := fun W hb => num_err 1 W (hg.under hb hw0)
  have Hnum := Lib.hid hnum
  have hnew := new_bad lim w h
  unfold errK at hnew
  have Hnew := Lib.hid hnew
  clear hg hnum hnew
  have hd : (lim < 1 ∧ True) ∨ (decide (lim < 1) = false ∧ 4096 < lim) := by
    rcases h with h | h
    · exact .inl ⟨h, trivial⟩
    · exact .inr ⟨by simp; omega, h⟩
  clear h
  go_enter Tryd.func3, Tryd.ntmps3
  go_wp2_with fail
  refine Hnew.out.mono ?_
  rintro e w0 ⟨rfl, hb⟩
  have Hb := Lib.hid hb
  clear hb
  rcases hd with ⟨h1, -⟩ | ⟨h1, h2⟩
  all_goals
    go_wp2_with fail
    refine (put_nil 1 2 _ _).mono ?_
    rintro e w1 ⟨rfl, hb⟩
    try unfold errK
    have hb2 := Hb.out.trans (hb.mono Hb.out.size)
    clear Hb
    have Hb := Lib.hid hb2
    clear hb hb2
    go_wp2_with fail
    refine (take_nil 1 _).mono ?_
    rintro e w2 ⟨rfl, hb⟩
    try unfold errK
    have hb2 := (Hb.out.trans (hb.mono Hb.out.size)).alloc (Nat.le_trans Hb.out.size hb.size) (.cells #[.int .i64 0, .int .i64 0, .int .i64 0, .slice none 0 0] 32)
    clear Hb
    have Hb := Lib.hid hb2
    clear hb hb2
    go_wp2_with fail
    refine (copy_nil 1 _).mono ?_
    rintro e w3 ⟨rfl, hb⟩
    try unfold errK
    have hb2 := Hb.out.trans (hb.mono Hb.out.size)
    clear Hb
    have Hb := Lib.hid hb2
    clear hb hb2
    go_wp2_with fail
    refine (first_nil 1 _).mono ?_
    rintro e w4 ⟨rfl, hb⟩
    try unfold errK
    have hb2 := Hb.out.trans (hb.mono Hb.out.size)
    clear Hb
    have Hb := Lib.hid hb2
    clear hb hb2
    go_wp2_with fail
    refine (Hnum.out _ Hb.out).mono ?_
    rintro e w5 ⟨rfl, hb⟩
    have hb2 := Hb.out.trans (hb.mono Hb.out.size)
    clear Hb
    have Hb := Lib.hid hb2
    clear hb hb2
    go_wp2_with fail
    refine (Hnum.out _ Hb.out).mono ?_
    rintro e w6 ⟨rfl, hb⟩
    have hb2 := Hb.out.trans (hb.mono Hb.out.size)
    clear Hb
    have Hb := Lib.hid hb2
    clear hb hb2
    go_wp2_with fail
    refine (Hnum.out _ Hb.out).mono ?_
    rintro e w7 ⟨rfl, hb⟩
    have hb2 := Hb.out.trans (hb.mono Hb.out.size)
    clear Hb
    have Hb := Lib.hid hb2
    clear hb hb2
    go_wp2_with fail
    refine (Hnum.out _ Hb.out).mono ?_
    rintro e w8 ⟨rfl, hb⟩
    have hb2 := Hb.out.trans (hb.mono Hb.out.size)
    clear Hb
    have Hb := Lib.hid hb2
    clear hb hb2
    go_wp2_with fail
    refine (Hnum.out _ Hb.out).mono ?_
    rintro e w9 ⟨rfl, hb⟩
    have hb2 := Hb.out.trans (hb.mono Hb.out.size)
    clear Hb
    have Hb := Lib.hid hb2
    clear hb hb2
    go_wp2_with fail
    refine (turn_nil 1 1 _).mono ?_
    rintro e w10 ⟨rfl, hb⟩
    try unfold errK
    have hb2 := Hb.out.trans (hb.mono Hb.out.size)
    clear Hb
    have Hb := Lib.hid hb2
    clear hb hb2
    go_wp2_with fail
    refine (Hnum.out _ Hb.out).mono ?_
    rintro e w11 ⟨rfl, hb⟩
    have hb2 := Hb.out.trans (hb.mono Hb.out.size)
    clear Hb
    have Hb := Lib.hid hb2
    clear hb hb2
    go_wp2_with fail
    refine (cut_nil 1 2 true _).mono ?_
    rintro e w12 ⟨rfl, hb⟩
    try unfold errK
    have hb2 := Hb.out.trans (hb.mono Hb.out.size)
    clear Hb
    have Hb := Lib.hid hb2
    clear hb hb2
    go_wp2_with fail
    refine (Hnum.out _ Hb.out).mono ?_
    rintro e w13 ⟨rfl, hb⟩
    have hb2 := Hb.out.trans (hb.mono Hb.out.size)
    clear Hb
    have Hb := Lib.hid hb2
    clear hb hb2
    go_wp2_with fail
    refine (len_nil _).mono ?_
    rintro e w14 ⟨rfl, hb⟩
    try unfold errK
    have hb2 := Hb.out.trans (hb.mono Hb.out.size)
    clear Hb
    have Hb := Lib.hid hb2
    clear hb hb2
    go_wp2_with fail
    refine (items_nil _).mono ?_
    rintro e w15 ⟨rfl, hb⟩
    try unfold errK
    have hb2 := Hb.out.trans (hb.mono Hb.out.size)
    clear Hb
    have Hb := Lib.hid hb2
    clear hb hb2
    go_wp2_with fail
    refine (sure_any _).mono ?_
    rintro e wz ⟨rfl, hb⟩
    go_wp2_with fail
    go_ret
    exact ⟨rfl, Hb.out.trans (hb.mono Hb.out.size)⟩
end Go.Proofs.YtckpinnnmafdgaaDoor
