/- A slice of items that comes in. -/
import Derived.Test.YtodjjcnidgmkmaaDoorRows
import Derived.Test.YtodjjcnidgmkmaaDoorRead
namespace Go.Proofs.YtodjjcnidgmkmaaDoor
open Go.ChangeShapes Go.WideShapes Go.ChangeAt Go.RowKit Go.Joins Go.Deep
set_option linter.unusedVariables false
theorem in_items {H : Type} {enc : TypeId × Value → H} {w : World} {base : Nat} {spare : Nat → Bool} {held : Bool} {fuel : Nat} {v : Value} {x : DataW H × List MemPlace} (h : DataW.trod enc Tryd.prog w base spare held fuel 22 [v] = some x) :
    ∃ A n c, ∃ l : List It, v = .slice A n c ∧ Rd w T 4 A n (flat itc l) ∧ n ≤ c ∧ c ≤ maxLen ∧ (∀ y ∈ l, y.wf) ∧ (A = none → c = 0) := by
  obtain ⟨A, n, c, L, rfl, hr, hL, hnc, hcm, haz, hrow⟩ := in_flat Tryd.underlying22 Tryd.underlying26 (by kernel_rfl) (by kernel_rfl) (by decide) (ints4 Tryd.underlying3 Tryd.underlying3 Tryd.underlying3 Tryd.underlying3) h
  refine ⟨A, n, c, L.map toIt, rfl, ?_, hnc, hcm, ?_, fun h => (haz h).2⟩
  · rw [← flat_toIt L (fun r hr => (hrow r hr).1)]
    exact hr
  · intro y hy
    obtain ⟨r, hr, rfl⟩ := List.mem_map.1 hy
    exact toIt_wf r (hrow r hr).1 (hrow r hr).2
end Go.Proofs.YtodjjcnidgmkmaaDoor
