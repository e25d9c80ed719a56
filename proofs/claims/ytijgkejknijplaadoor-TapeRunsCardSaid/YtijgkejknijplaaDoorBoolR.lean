/- Slices of booleans: what comes in. -/
import Derived.Test.YtijgkejknijplaaDoorEnt
namespace Go.Proofs.YtijgkejknijplaaDoor
open Go.ChangeShapes Go.WideShapes Go.ChangeAt Go.RowKit Go.Joins Go.Deep
set_option linter.unusedVariables false
set_option linter.unusedSimpArgs false
def boolc (b : Bool) : List Value := [.bool b]
theorem boolc_len (b : Bool) : (boolc b).length = 1 := rfl
theorem bool_cells {w : World} {ok : Nat → Prop} {n : Nat} {A : Option Addr} {l : List Bool} (h : Rd w ok 1 A n (flat boolc l)) {j : Nat} (hj : j < n) : ∃ b o x, A = some ⟨b, o, none⟩ ∧ l[j]? = some x ∧ w.cell? ⟨b, o + j, none⟩ = some (.bool x) := by
  obtain ⟨b, o, x, hA, hb, hlt, hx, hc⟩ := h.fat boolc_len (by omega) hj
  have := hc 0 _ rfl
  rw [Nat.mul_one, Nat.add_zero] at this
  exact ⟨b, o, x, hA, hx, this⟩
theorem in_bools {H : Type} {enc : TypeId × Value → H} {P : Program} {w : World} {base : Nat} {spare : Nat → Bool} {held : Bool} {fuel : Nat} {v : Value} {x : DataW H × List MemPlace} {t e : TypeId}
    (ht : P.underlying t = some (.slice e)) (he : P.underlying e = some .bool) (hC : P.cellsOf e = 1)
    (h : DataW.trod enc P w base spare held fuel t [v] = some x) :
    ∃ A n c, ∃ L : List Bool, v = .slice A n c ∧ Rd w T 1 A n (flat boolc L) ∧ n ≤ c ∧ c ≤ maxLen := by
  rcases open_slice ht h with ⟨hcs, _⟩ | ⟨a, len, cap, m, n', D, Pl, hcs, _, hl, hm, hmm, hx, hi⟩
  · exact ⟨none, 0, 0, [], by simpa using hcs, Rd.none_, Nat.le_refl _, by simp [maxLen]⟩
  · have key : ∀ i, i < len → ∃ y : Bool, w.cell? (a.add i) = some (.bool y) := by
      intro i hil
      obtain ⟨cs', hc, ht'⟩ := hi i (by rw [hmm]; split <;> omega)
      rw [hC, Nat.mul_one] at hc
      obtain ⟨_, hcl, hat⟩ := World.cells?_some hc
      obtain ⟨u, rfl⟩ : ∃ u, cs' = [u] := by
        match cs', hcl with
        | [u], _ => exact ⟨u, rfl⟩
      have h0 := hat 0 (by omega)
      have e0 : (a.add i).add 0 = a.add i := rfl
      rw [e0] at h0
      obtain ⟨b, rfl⟩ := in_bool he ht'
      exact ⟨b, h0⟩
    by_cases hlen : len = 0
    · subst hlen
      exact ⟨some a, 0, cap, [], by simpa using hcs, ⟨by simp [flat], fun h => by omega⟩, by omega, hm⟩
    · have hspot : a.spot = none := by
        obtain ⟨y0, hc⟩ := key 0 (by omega)
        obtain ⟨b, o, sp⟩ := a
        exact World.cell?_spot hc
      obtain ⟨b, o, sp⟩ := a
      dsimp only at hspot
      subst hspot
      have hadd : ∀ k, (⟨b, o, none⟩ : Addr).add k = ⟨b, o + k, none⟩ := fun k => by unfold Addr.add; split <;> simp_all
      obtain ⟨L, k1, k2, k3⟩ := rd_of_rows (A := some ⟨b, o, none⟩) (n := len) (w := w) boolc_len (by omega) (fun _ => True) (by
        intro i hi
        obtain ⟨y, hc⟩ := key i hi
        refine ⟨y, trivial, b, o, rfl, fun j u hj => ?_⟩
        rw [hadd] at hc
        match j, hj with
        | 0, hj =>
          obtain rfl := Option.some.inj hj
          rw [Nat.mul_one]
          exact hc)
      exact ⟨some ⟨b, o, none⟩, len, cap, L, by simpa using hcs, k1, hl, hm⟩
end Go.Proofs.YtijgkejknijplaaDoor
