/- A slice of marks that comes in. -/
import Derived.Test.YtedcjakgdoiomaaRows
import Derived.Test.YtedcjakgdoiomaaConf4
namespace Go.Proofs.Ytedcjakgdoiomaa
open Go.ChangeShapes Go.WideShapes Go.ChangeAt Go.RowKit Go.Joins Go.Deep
set_option linter.unusedVariables false
def toMk (r : List Int) : Mk := ⟨r.getD 0 0, r.getD 1 0⟩
theorem flat_toMk (L : List (List Int)) (h : ∀ r ∈ L, r.length = 2) : flat ii L = flat mkc (L.map toMk) := by
  induction L with
  | nil => rfl
  | cons r L ih =>
    rw [List.map_cons, flat_cons, flat_cons, ih (fun r' hr' => h r' (by simp [hr']))]
    congr 1
    match r, h r (by simp) with
    | [a, b], _ => rfl
theorem in_mks {H : Type} {enc : TypeId × Value → H} {w : World} {base : Nat} {spare : Nat → Bool} {held : Bool} {fuel : Nat} {v : Value} {x : DataW H × List MemPlace} (h : DataW.trod enc Try.prog w base spare held fuel 23 [v] = some x) :
    ∃ A n c, ∃ l : List Mk, v = .slice A n c ∧ Rd w T 2 A n (flat mkc l) ∧ n ≤ c ∧ c ≤ maxLen := by
  obtain ⟨A, n, c, L, rfl, hr, hL, hnc, hcm, haz, hrow⟩ := in_flat Try.underlying23 Try.underlying38 (by kernel_rfl) (by kernel_rfl) (by decide) (ints2 Try.underlying3 Try.underlying3) h
  refine ⟨A, n, c, L.map toMk, rfl, ?_, hnc, hcm⟩
  rw [← flat_toMk L (fun r hr => (hrow r hr).1)]
  exact hr
end Go.Proofs.Ytedcjakgdoiomaa
