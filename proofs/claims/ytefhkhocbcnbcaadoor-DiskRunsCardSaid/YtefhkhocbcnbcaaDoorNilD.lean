/- Calls at a nil disk; New of what can't be one. -/
import Derived.Test.YtefhkhocbcnbcaaDoorArm
import Derived.Test.YtefhkhocbcnbcaaDoorClD
namespace Go.Proofs.YtefhkhocbcnbcaaDoor
open Go.RowKit
set_option maxRecDepth 100000
set_option linter.unusedVariables false
set_option linter.unusedSimpArgs false
def NilErr (W : World) (e : Ending) (w' : World) : Prop := e = .returned (.iface 56 (.int .i64 1)) ∧ Below W.heap.size W w'
theorem within_nil (p n : Int) (w : World) : Calls Tryd.prog 27 #[.pointer none, .int .i64 p, .int .i64 n] w (NilErr w) := by
  go_enter Tryd.func27, Tryd.ntmps27
  go_wp2_with fail
  go_ret
  exact ⟨rfl, by first | exact Below.refl _ _ | exact (Below.refl _ _).drew⟩
theorem read_nil (w : World) : Calls Tryd.prog 18 #[.pointer none, .int .i64 0, .int .i64 0] w (fun e w' => e = .returned (.tuple #[.slice none 0 0, .iface 56 (.int .i64 1)]) ∧ Below w.heap.size w w') := by
  have h := within_nil 0 0
  go_enter Tryd.func18, Tryd.ntmps18
  go_wp2_with fail
  refine (h _).mono ?_
  rintro e w1 ⟨rfl, hb⟩
  go_wp2_with fail
  go_ret2
  exact ⟨rfl, hb⟩
theorem write_nil (w : World) : Calls Tryd.prog 14 #[.pointer none, .int .i64 0, .slice none 0 0] w (NilErr w) := by
  have h := within_nil 0 0
  go_enter Tryd.func14, Tryd.ntmps14
  go_wp2_with fail
  refine (h _).mono ?_
  rintro e w1 ⟨rfl, hb⟩
  go_wp2_with fail
  go_ret
  exact ⟨rfl, hb⟩
theorem sync_nil (w : World) : Calls Tryd.prog 15 #[.pointer none] w (NilErr w) := by
  have h := within_nil 0 0
  go_enter Tryd.func15, Tryd.ntmps15
  go_wp2_with fail
  refine (h _).mono ?_
  rintro e w1 ⟨rfl, hb⟩
  go_wp2_with fail
  go_ret
  exact ⟨rfl, hb⟩
theorem arm_nil (w : World) : Calls Tryd.prog 13 #[.pointer none, .int .i64 1] w (NilErr w) := by
  go_enter Tryd.func13, Tryd.ntmps13
  go_wp2_with fail
  go_ret
  exact ⟨rfl, by first | exact Below.refl _ _ | exact (Below.refl _ _).drew⟩
theorem start_nil (w : World) : Calls Tryd.prog 17 #[.pointer none, .slice none 0 0] w (fun e w' => e = .returned (.tuple #[]) ∧ Below w.heap.size w w') := by
  go_enter Tryd.func17, Tryd.ntmps17
  go_wp2_with fail
  (try simp only [Exit.inBlock, Exit.then])
  refine bodyPost_ret (results_none rfl _ _ _) rfl ?_
  exact ⟨rfl, by first | exact Below.refl _ _ | exact (Below.refl _ _).drew⟩
theorem size_nil (w : World) : Calls Tryd.prog 19 #[.pointer none] w (fun e w' => e = .returned (.int .i64 0) ∧ w' = w) := by
  go_enter Tryd.func19, Tryd.ntmps19
  go_wp2_with fail
  go_ret
  exact ⟨rfl, rfl⟩
theorem waits_nil (w : World) : Calls Tryd.prog 11 #[.pointer none] w (fun e w' => e = .returned (.int .i64 0) ∧ w' = w) := by
  go_enter Tryd.func11, Tryd.ntmps11
  go_wp2_with fail
  go_ret
  exact ⟨rfl, rfl⟩
theorem down_nil (w : World) : Calls Tryd.prog 10 #[.pointer none] w (fun e w' => e = .returned (.bool false) ∧ w' = w) := by
  go_enter Tryd.func10, Tryd.ntmps10
  go_wp2_with fail
  go_ret
  exact ⟨rfl, rfl⟩
theorem clone_nil (w : World) : Calls Tryd.prog 9 #[.pointer none] w (fun e w' => e = .returned (.pointer none) ∧ Below w.heap.size w w') := by
  go_enter Tryd.func9, Tryd.ntmps9
  go_wp2_with fail
  go_ret
  exact ⟨rfl, by first | exact Below.refl _ _ | exact (Below.refl _ _).drew⟩
theorem new_no (z : Int) (h : z < 1 ∨ 4194304 < z) (hz : I64 z) (w : World) : Calls Tryd.prog 6 #[.int .i64 z] w (fun e w' => e = .returned (.tuple #[.pointer none, .iface 56 (.int .i64 1)]) ∧ Below w.heap.size w w') := by
  unfold I64 at hz
  by_cases h1 : z < 1
  · go_enter Tryd.func6, Tryd.ntmps6
    go_wp2_with fail
    go_ret2
    exact ⟨rfl, by first | exact Below.refl _ _ | exact (Below.refl _ _).drew⟩
  · have h2 : (4194304 : Int) < z := by omega
    clear h
    go_enter Tryd.func6, Tryd.ntmps6
    go_wp2_with fail
    go_ret2
    exact ⟨rfl, by first | exact Below.refl _ _ | exact (Below.refl _ _).drew⟩
end Go.Proofs.YtefhkhocbcnbcaaDoor
