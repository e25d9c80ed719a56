/- Walk of the law package's num: an error's number. -/
import Derived.Test.YtlecglmiigdjlaaGreatDoorZb32
import Derived.Test.YtlecglmiigdjlaaGreatDoorZb0
namespace Go.Proofs.YtlecglmiigdjlaaGreatDoor
open Go.RowKit
set_option linter.unusedVariables false
set_option linter.unusedSimpArgs false
/-- An error of the program's: nil, or an api.Errno. -/
def errV (k : Int) : Value := if k = 0 then .nilIface else .iface 69 (.int .i64 k)
theorem ErrT.below {w w' : World} (h : ErrT w) (hb : Below w.heap.size w w') : ErrT w' := cell_later hb h
theorem ErrT.under {B : Nat} {w w' : World} (h : ErrT w) (hb : Below B w w') (hB : 0 < B) : ErrT w' := (hb.cell (p := ⟨0, 0, none⟩) hB).trans h
theorem ErrT.lt {w : World} (h : ErrT w) : 0 < w.heap.size := World.block_lt_of_cell? w _ h
theorem num_nil (w : World) : Calls Tryz.prog 6 #[.nilIface] w fun e w' => e = .returned (.int .i64 0) ∧ Below w.heap.size w w' := by
  go_enter Tryz.func6, Tryz.ntmps6
  go_wp2_with fail
  go_ret
  exact ⟨rfl, (Below.refl _ _).alloc (Nat.le_refl _) _⟩
set_option maxHeartbeats 800000 in
theorem num_err (k : Int) (w : World) (hg : ErrT w) : Calls Tryz.prog 6 #[.iface 69 (.int .i64 k)] w fun e w' => e = .returned (.int .i64 k) ∧ Below w.heap.size w w' := by
  have hlt := hg.lt
  have hgA : (w.alloc (.cells #[.int .i64 0] 69)).cell? ⟨0, 0, none⟩ = some (.iface 174 (.agg #[.pointer (some ⟨6, 27, none⟩)])) := by
    rw [World.cell?_alloc_lt _ _ ⟨0, 0, none⟩ hlt]; exact hg
  clear hg
  go_enter Tryz.func6, Tryz.ntmps6
  go_wp2_with fail
  refine (as_hit k ⟨w.heap.size, 0, none⟩ (.int .i64 0) _ hgA (by simp) (by simp)).mono ?_
  rintro e w' ⟨rfl, rfl⟩
  clear hgA
  go_wp2_with fail
  go_ret
  refine ⟨rfl, ?_⟩
  repeat (first | exact Below.refl _ _ | refine Below.setCell ?_ (by simp) _ | refine Below.alloc ?_ (by first | (simp; done) | (simp; omega)) _)
theorem num_any (k : Int) (w : World) (hg : ErrT w) : Calls Tryz.prog 6 #[errV k] w fun e w' => e = .returned (.int .i64 k) ∧ Below w.heap.size w w' := by
  unfold errV
  by_cases h : k = 0
  · subst h
    rw [if_pos rfl]
    exact num_nil w
  · rw [if_neg h]
    exact num_err k w hg
end Go.Proofs.YtlecglmiigdjlaaGreatDoor
