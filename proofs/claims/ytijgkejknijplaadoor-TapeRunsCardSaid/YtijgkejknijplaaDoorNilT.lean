/- Calls at a nil tape. -/
import Derived.Test.YtijgkejknijplaaDoorTpA
namespace Go.Proofs.YtijgkejknijplaaDoor
open Go.RowKit
set_option maxRecDepth 100000
set_option linter.unusedVariables false
set_option linter.unusedSimpArgs false
def NilT (W : World) (e : Ending) (w' : World) : Prop := e = .returned (.iface 58 (.int .i64 1)) ∧ Below W.heap.size W w'
theorem alive_nil (w : World) : Calls Tryd.prog 34 #[.pointer none] w (NilT w) := by
  go_enter Tryd.func34, Tryd.ntmps34
  go_wp2_with fail
  go_ret
  exact ⟨rfl, by first | exact Below.refl _ _ | exact (Below.refl _ _).drew⟩
theorem append_nil (w : World) : Calls Tryd.prog 18 #[.pointer none, .slice none 0 0] w (NilT w) := by
  have h := alive_nil
  go_enter Tryd.func18, Tryd.ntmps18
  go_wp2_with fail
  refine (h _).mono ?_
  rintro e w1 ⟨rfl, hb⟩
  go_wp2_with fail
  go_ret
  exact ⟨rfl, hb⟩
theorem reset_nil (w : World) : Calls Tryd.prog 19 #[.pointer none] w (NilT w) := by
  have h := alive_nil
  go_enter Tryd.func19, Tryd.ntmps19
  go_wp2_with fail
  refine (h _).mono ?_
  rintro e w1 ⟨rfl, hb⟩
  go_wp2_with fail
  go_ret
  exact ⟨rfl, hb⟩
theorem room_nil (w : World) : Calls Tryd.prog 16 #[.pointer none] w (fun e w' => e = .returned (.int .i64 (-1)) ∧ w' = w) := by
  go_enter Tryd.func16, Tryd.ntmps16
  go_wp2_with fail
  go_ret
  exact ⟨rfl, rfl⟩
theorem len_nil (w : World) : Calls Tryd.prog 15 #[.pointer none] w (fun e w' => e = .returned (.int .i64 0) ∧ w' = w) := by
  go_enter Tryd.func15, Tryd.ntmps15
  go_wp2_with fail
  go_ret
  exact ⟨rfl, rfl⟩
end Go.Proofs.YtijgkejknijplaaDoor
