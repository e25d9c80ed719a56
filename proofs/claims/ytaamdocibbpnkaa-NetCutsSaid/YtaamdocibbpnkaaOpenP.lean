/- A slice of pairs that comes in. -/
import Derived.Test.YtaamdocibbpnkaaRows
import Derived.Test.YtaamdocibbpnkaaCuts
namespace Go.Proofs.Ytaamdocibbpnkaa
open Go.ChangeShapes Go.WideShapes Go.ChangeAt Go.RowKit Go.Joins Go.Deep
set_option linter.unusedVariables false
def toPr (r : List Int) : Pr := ⟨r.getD 0 0, r.getD 1 0⟩
theorem flat_toPr (L : List (List Int)) (h : ∀ r ∈ L, r.length = 2) : flat ii L = flat prc (L.map toPr) := by
  induction L with
  | nil => rfl
  | cons r L ih =>
    rw [List.map_cons, flat_cons, flat_cons, ih (fun r' hr' => h r' (by simp [hr']))]
    congr 1
    match r, h r (by simp) with
    | [a, b], _ => rfl
theorem in_prs {H : Type} {enc : TypeId × Value → H} {w : World} {base : Nat} {spare : Nat → Bool} {held : Bool} {fuel : Nat} {v : Value} {x : DataW H × List MemPlace} (h : DataW.trod enc Try.prog w base spare held fuel 22 [v] = some x) :
    ∃ A n c, ∃ l : List Pr, v = .slice A n c ∧ Rd w T 2 A n (flat prc l) ∧ n ≤ c ∧ c ≤ maxLen := by
  obtain ⟨A, n, c, L, rfl, hr, hL, hnc, hcm, hrow⟩ := in_arrs 3 Try.underlying22 Try.underlying29 Try.underlying3 (by kernel_rfl) (by kernel_rfl) (by decide) h
  refine ⟨A, n, c, L.map toPr, rfl, ?_, hnc, hcm⟩
  rw [← flat_toPr L (fun r hr => (hrow r hr).1)]
  exact hr
end Go.Proofs.Ytaamdocibbpnkaa
