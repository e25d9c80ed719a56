/- Walks: conf.Check, conf.Has. -/
import Derived.Test.YtedcjakgdoiomaaDoorConf1
namespace Go.Proofs.YtedcjakgdoiomaaDoor
open Go.RowKit
set_option maxRecDepth 100000
set_option linter.unusedVariables false
set_option linter.unusedSimpArgs false
def ChPost (W : World) (b : Bool) (e : Ending) (w' : World) : Prop := e = .returned (if b then .nilIface else .iface 45 (.int .i64 1)) ∧ W = w'
theorem chk_any (A : Option Addr) (n c : Nat) (l : List Int) (w : World) {ok : Nat → Prop} (hr : Rd w ok 1 A n (ii l)) (hn : n ≤ 1000000) :
    Calls Tryd.prog 10 #[.slice A n c] w (ChPost w (cmay l)) := by
  have hmay := may_any A n c l w hr hn
  generalize cmay l = q at hmay
  have Hmay := Lib.hid hmay
  clear hr hmay
  go_enter Tryd.func10, Tryd.ntmps10
  go_wp2_with fail
  refine Hmay.out.mono ?_
  rintro e w1 ⟨rfl, rfl⟩
  cases q
  all_goals
    go_wp2_with fail
    go_ret
    exact ⟨rfl, rfl⟩
theorem hasM_any (A : Option Addr) (n c : Nat) (l : List Int) (z : Int) (w : World) {ok : Nat → Prop} (hr : Rd w ok 1 A n (ii l)) (hn : n ≤ 1000000) :
    Calls Tryd.prog 12 #[.slice A n c, .int .i64 z] w (SameBool w (cmay l && decide (z ∈ l))) := by
  have hmay := may_any A n c l w hr hn
  have hhas := hasC_any A n c l z w hr hn
  generalize cmay l = q at hmay
  generalize decide (z ∈ l) = p at hhas
  have Hmay := Lib.hid hmay
  have Hhas := Lib.hid hhas
  clear hr hmay hhas
  go_enter Tryd.func12, Tryd.ntmps12
  go_wp2_with fail
  refine Hmay.out.mono ?_
  rintro e w1 ⟨rfl, rfl⟩
  cases q
  · go_wp2_with fail
    go_ret
    exact ⟨rfl, rfl⟩
  · go_wp2_with fail
    refine Hhas.out.mono ?_
    rintro e w1 ⟨rfl, rfl⟩
    go_wp2_with fail
    go_ret
    exact ⟨rfl, rfl⟩
end Go.Proofs.YtedcjakgdoiomaaDoor
