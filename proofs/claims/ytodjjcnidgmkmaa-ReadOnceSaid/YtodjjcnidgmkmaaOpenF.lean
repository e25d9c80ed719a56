/- A slice of triples that comes in. -/
import Derived.Test.YtodjjcnidgmkmaaRows
import Derived.Test.YtodjjcnidgmkmaaOnceW
namespace Go.Proofs.Ytodjjcnidgmkmaa
open Go.ChangeShapes Go.WideShapes Go.ChangeAt Go.RowKit Go.Joins Go.Deep
set_option linter.unusedVariables false
theorem in_trs {H : Type} {enc : TypeId × Value → H} {w : World} {base : Nat} {spare : Nat → Bool} {held : Bool} {fuel : Nat} {v : Value} {x : DataW H × List MemPlace} (h : DataW.trod enc Try.prog w base spare held fuel 37 [v] = some x) :
    ∃ A n c, ∃ l : List Tr, v = .slice A n c ∧ Rd w T 3 A n (flat trc l) ∧ n ≤ c ∧ c ≤ maxLen := by
  obtain ⟨A, n, c, L, rfl, hr, hL, hnc, hcm, hrow⟩ := in_arrs 3 Try.underlying37 Try.underlying25 Try.underlying3 (by kernel_rfl) (by kernel_rfl) (by decide) h
  refine ⟨A, n, c, L.map toTr, rfl, ?_, hnc, hcm⟩
  rw [← flat_toTr L (fun r hr => (hrow r hr).1)]
  exact hr
end Go.Proofs.Ytodjjcnidgmkmaa
