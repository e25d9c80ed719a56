/- An array of two slices of integers that comes in by value. -/
import Derived.Test.YtedcjakgdoiomaaArr
namespace Go.Proofs.Ytedcjakgdoiomaa
open Go.ChangeShapes Go.WideShapes Go.ChangeAt Go.RowKit Go.Joins Go.Deep
set_option linter.unusedVariables false
set_option linter.unusedSimpArgs false
theorem open_two_ints {H : Type} {enc : TypeId × Value → H} {P : Program} {w : World} {base : Nat} {spare : Nat → Bool} {held : Bool} {t e g : TypeId} {r : Reach} {b0 : Nat} {v : Value} {d : DataW H} {p : List MemPlace} {k : IntKind}
    (ht : P.underlying t = some (.array 2 e)) (he : P.underlying e = some (.slice g)) (hg : P.underlying g = some (.int k)) (hce : P.cellsOf e = 1) (hcg : P.cellsOf g = 1) (hC : P.cellsOf t = 2)
    (hv : Value.okWide P w r b0 t v) (h : DataW.Trod enc P w base spare held t v d p) :
    ∃ A n c, ∃ l : List Int, ∃ B m d, ∃ s : List Int, v = .agg #[.slice A n c, .slice B m d] ∧ Rd w T 1 A n (l.map (Value.int k)) ∧ Rd w T 1 B m (s.map (Value.int k)) := by
  obtain ⟨cs, rfl, hsz⟩ := okWide_array ht hv
  obtain ⟨fuel, hf⟩ := h
  obtain ⟨xs, m, _, _, hl, hxl, hf2⟩ := DataW.trod_array ht hf
  have hl2 : cs.toList.length = 2 := by simpa [hC] using hsz
  obtain ⟨a, b, hab⟩ : ∃ a b, cs.toList = [a, b] := by
    match cs.toList, hl2 with
    | [a, b], _ => exact ⟨a, b, rfl⟩
  have hcs : cs = #[a, b] := by
    apply Array.ext'
    simpa using hab
  subst hcs
  have h0 := hf2 0 (by omega)
  have h1 := hf2 1 (by omega)
  rw [hce, List.getElem?_eq_getElem (by omega)] at h0 h1
  obtain ⟨A, n, c, l, rfl, hr, _⟩ := in_ints he hg hcg (v := a) (by simpa [Value.cells] using h0)
  obtain ⟨B, q, f, s, rfl, hs, _⟩ := in_ints he hg hcg (v := b) (by simpa [Value.cells] using h1)
  exact ⟨A, n, c, l, B, q, f, s, rfl, hr, hs⟩
end Go.Proofs.Ytedcjakgdoiomaa
