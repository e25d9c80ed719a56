/- Slices of byte slices: cells, and what comes in. -/
import Derived.Test.YtijgkejknijplaaDoorEnt
namespace Go.Proofs.YtijgkejknijplaaDoor
open Go.ChangeShapes Go.WideShapes Go.ChangeAt Go.RowKit Go.Joins Go.Deep
set_option linter.unusedVariables false
set_option linter.unusedSimpArgs false
/-- Bytes that lie elsewhere. -/
structure Br where
  A : Option Addr
  n : Nat
  m : Nat
  d : List UInt8
def brcell (x : Br) : List Value := [.slice x.A x.n x.m]
theorem brcell_len (x : Br) : (brcell x).length = 1 := rfl
theorem br_cells {w : World} {ok : Nat → Prop} {n : Nat} {A : Option Addr} {l : List Br} (h : Rd w ok 1 A n (flat brcell l)) {j : Nat} (hj : j < n) : ∃ b o x, A = some ⟨b, o, none⟩ ∧ ok b ∧ b < w.heap.size ∧ l[j]? = some x ∧ w.cell? ⟨b, o + j, none⟩ = some (.slice x.A x.n x.m) := by
  obtain ⟨b, o, x, hA, hb, hlt, hx, hc⟩ := h.fat brcell_len (by omega) hj
  have := hc 0 _ rfl
  rw [Nat.mul_one, Nat.add_zero] at this
  exact ⟨b, o, x, hA, hb, hlt, hx, this⟩
def BDat (w : World) (l : List Br) : Prop := ∀ x ∈ l, Rd w T 1 x.A x.n (bs x.d) ∧ x.n ≤ x.m ∧ x.m ≤ maxLen
theorem in_brows {H : Type} {enc : TypeId × Value → H} {P : Program} {w : World} {base : Nat} {spare : Nat → Bool} {held : Bool} {fuel : Nat} {v : Value} {x : DataW H × List MemPlace} {t e e3 : TypeId}
    (ht : P.underlying t = some (.slice e)) (he : P.underlying e = some (.slice e3)) (hC : P.cellsOf e = 1) (h4 : P.underlying e3 = some (.int .u8)) (h5 : P.cellsOf e3 = 1)
    (h : DataW.trod enc P w base spare held fuel t [v] = some x) :
    ∃ A n c, ∃ L : List Br, v = .slice A n c ∧ Rd w T 1 A n (flat brcell L) ∧ L.length = n ∧ n ≤ c ∧ c ≤ maxLen ∧ BDat w L := by
  rcases open_slice ht h with ⟨hcs, _⟩ | ⟨a, len, cap, m, n', D, Pl, hcs, _, hl, hm, hmm, hx, hi⟩
  · refine ⟨none, 0, 0, [], by simpa using hcs, Rd.none_, rfl, Nat.le_refl _, by simp [maxLen], fun y hy => by cases hy⟩
  · have key : ∀ i, i < len → ∃ y : Br, (Rd w T 1 y.A y.n (bs y.d) ∧ y.n ≤ y.m ∧ y.m ≤ maxLen) ∧ w.cell? (a.add i) = some (.slice y.A y.n y.m) := by
      intro i hil
      obtain ⟨cs', hc, ht'⟩ := hi i (by rw [hmm]; split <;> omega)
      rw [hC, Nat.mul_one] at hc
      obtain ⟨_, hcl, hat⟩ := World.cells?_some hc
      obtain ⟨u, rfl⟩ : ∃ u, cs' = [u] := by
        match cs', hcl with
        | [u], _ => exact ⟨u, rfl⟩
      have h0 := hat 0 (by omega)
      have e0 : (a.add i).add 0 = a.add i := rfl
      rw [e0] at h0
      obtain ⟨B, k, c, l, rfl, hr, h1, h2, _⟩ := in_bytes he h4 h5 ht'
      exact ⟨⟨B, k, c, l⟩, ⟨hr, h1, h2⟩, h0⟩
    by_cases hlen : len = 0
    · subst hlen
      exact ⟨some a, 0, cap, [], by simpa using hcs, ⟨by simp [flat], fun h => by omega⟩, rfl, by omega, hm, fun y hy => by cases hy⟩
    · have hspot : a.spot = none := by
        obtain ⟨y0, _, hc⟩ := key 0 (by omega)
        obtain ⟨b, o, sp⟩ := a
        exact World.cell?_spot hc
      obtain ⟨b, o, sp⟩ := a
      dsimp only at hspot
      subst hspot
      have hadd : ∀ k, (⟨b, o, none⟩ : Addr).add k = ⟨b, o + k, none⟩ := fun k => by unfold Addr.add; split <;> simp_all
      obtain ⟨L, k1, k2, k3⟩ := rd_of_rows (A := some ⟨b, o, none⟩) (n := len) (w := w) brcell_len (by omega) (fun y => Rd w T 1 y.A y.n (bs y.d) ∧ y.n ≤ y.m ∧ y.m ≤ maxLen) (by
        intro i hi
        obtain ⟨y, hy, hc⟩ := key i hi
        refine ⟨y, hy, b, o, rfl, fun j u hj => ?_⟩
        rw [hadd] at hc
        match j, hj with
        | 0, hj =>
          obtain rfl := Option.some.inj hj
          rw [Nat.mul_one]
          exact hc)
      exact ⟨some ⟨b, o, none⟩, len, cap, L, by simpa using hcs, k1, k2, hl, hm, k3⟩
end Go.Proofs.YtijgkejknijplaaDoor
