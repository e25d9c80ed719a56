/- The document's disk: plain, and its values in memory. -/
import Derived.Test.YtefhkhocbcnbcaaDoorDkL
import Derived.Test.YtefhkhocbcnbcaaDoorDs
namespace Go.Proofs.YtefhkhocbcnbcaaDoor
open Go.RowKit
set_option linter.unusedVariables false
set_option linter.unusedSimpArgs false
/-- Its safe bytes, the writes behind, the steps till the power goes (-1: never), whether it is gone. -/
structure R3 where
  b : List UInt8
  l : List (Nat × List UInt8)
  armed : Int
  off : Bool
def R3.make (z : Nat) : R3 := ⟨List.replicate z 0, [], -1, false⟩
def R3.now (R : R3) : List UInt8 := lain R.b R.l
def R3.bad (R : R3) (p n : Int) : Int := if p < 0 ∨ n < 0 ∨ (R.b.length : Int) < p ∨ (R.b.length : Int) - p < n then 1 else if R.off then 13 else 0
def R3.read (R : R3) (p n : Int) : List UInt8 × Int := if R.bad p n = 0 then ((R.now.drop p.toNat).take n.toNat, 0) else ([], R.bad p n)
def R3.stepped (R : R3) : R3 := if R.armed = 0 then { R with off := true, armed := -1 } else if 0 < R.armed then { R with armed := R.armed - 1 } else R
def R3.stepE (R : R3) : Int := if R.armed = 0 then 13 else 0
def R3.put (R : R3) (p : Int) (d : List UInt8) : R3 × Int := if R.bad p d.length = 0 then ({ R with l := R.l ++ [(p.toNat, d)] }.stepped, R.stepE) else (R, R.bad p d.length)
def R3.sync (R : R3) : R3 × Int := if R.off then (R, 13) else if R.armed = 0 then (R.stepped, 13) else ({ R.stepped with b := R.stepped.now, l := [] }, 0)
def R3.arm (R : R3) (n : Int) : R3 × Int := if n < 0 then (R, 1) else ({ R with armed := n }, 0)
def R3.start (R : R3) (keep : List Int) : R3 := ⟨lain R.b (keptQ R.l keep), [], -1, false⟩
/-- The document's disk is the one: m steps behind. -/
structure Rel (m : Nat) (D : Dk) (R : R3) : Prop where
  b : R.b = D.safe
  l : R.l = D.q
  off : R.off = D.off
  armed : (R.armed = -1 ∧ D.armed = 0) ∨ (0 ≤ R.armed ∧ D.armed = R.armed + 1) ∨ (4611686018427387904 - (m : Int) ≤ R.armed ∧ D.armed = R.armed)
section
variable {m z : Nat} {D : Dk} {R : R3}
theorem rel_new : Rel 0 (Dk.make z) (R3.make z) := ⟨rfl, rfl, rfl, .inl ⟨rfl, rfl⟩⟩
theorem Rel.up (h : Rel m D R) : Rel (m + 1) D R := ⟨h.b, h.l, h.off, by have := h.armed; omega⟩
theorem Rel.now (h : Rel m D R) (hk : D.Ok z) : R.now = D.now := by unfold R3.now; rw [h.b, h.l, hk.now]
theorem Rel.bad (h : Rel m D R) (p n : Int) : R.bad p n = D.withE p n := by unfold R3.bad Dk.withE; rw [h.b, h.off]
theorem Rel.read (h : Rel m D R) (hk : D.Ok z) (p n : Int) : R.read p n = D.read p n := by unfold R3.read Dk.read; rw [h.bad, h.now hk]
theorem Rel.step (h : Rel m D R) (hm : m ≤ 1000) : R.stepE = D.stepE ∧ Rel (m + 1) D.stepped R.stepped := by
  have ha := h.armed
  unfold R3.stepE Dk.stepE
  by_cases h0 : R.armed = 0
  · have h1 : D.armed = 1 := by omega
    have e1 : D.stepped = { D with off := true, armed := 0 } := by unfold Dk.stepped; rw [if_pos h1]
    have e2 : R.stepped = { R with off := true, armed := -1 } := by unfold R3.stepped; rw [if_pos h0]
    rw [if_pos h0, if_pos h1, e1, e2]
    exact ⟨rfl, ⟨h.b, h.l, rfl, .inl ⟨rfl, rfl⟩⟩⟩
  · have h1 : D.armed ≠ 1 := by omega
    have e1 : D.stepped = { D with armed := max 0 (D.armed - 1) } := by unfold Dk.stepped; rw [if_neg h1]
    rw [if_neg h0, if_neg h1, e1]
    by_cases h2 : 0 < R.armed
    · have e2 : R.stepped = { R with armed := R.armed - 1 } := by unfold R3.stepped; rw [if_neg h0, if_pos h2]
      rw [e2]
      refine ⟨rfl, ⟨h.b, h.l, h.off, ?_⟩⟩
      show (R.armed - 1 = -1 ∧ max 0 (D.armed - 1) = 0) ∨ (0 ≤ R.armed - 1 ∧ max 0 (D.armed - 1) = R.armed - 1 + 1) ∨ (4611686018427387904 - ((m + 1 : Nat) : Int) ≤ R.armed - 1 ∧ max 0 (D.armed - 1) = R.armed - 1)
      omega
    · have e2 : R.stepped = R := by unfold R3.stepped; rw [if_neg h0, if_neg h2]
      rw [e2]
      refine ⟨rfl, ⟨h.b, h.l, h.off, ?_⟩⟩
      show (R.armed = -1 ∧ max 0 (D.armed - 1) = 0) ∨ (0 ≤ R.armed ∧ max 0 (D.armed - 1) = R.armed + 1) ∨ (4611686018427387904 - ((m + 1 : Nat) : Int) ≤ R.armed ∧ max 0 (D.armed - 1) = R.armed)
      omega
theorem Rel.put (h : Rel m D R) (hm : m ≤ 1000) (p : Int) (d : List UInt8) : (R.put p d).2 = (D.write p d).2 ∧ Rel (m + 1) (D.write p d).1 (R.put p d).1 := by
  unfold R3.put Dk.write
  rw [h.bad]
  by_cases h0 : D.withE p d.length = 0
  · rw [if_pos h0, if_pos h0]
    have h2 : Rel m (D.put p.toNat d) { R with l := R.l ++ [(p.toNat, d)] } := ⟨h.b, by show R.l ++ _ = D.q ++ _; rw [h.l], h.off, h.armed⟩
    exact h2.step hm
  · rw [if_neg h0, if_neg h0]
    exact ⟨rfl, h.up⟩
theorem Rel.sync (h : Rel m D R) (hm : m ≤ 1000) (hk : D.Ok z) : R.sync.2 = D.sync.2 ∧ Rel (m + 1) D.sync.1 R.sync.1 := by
  obtain ⟨e1, h2⟩ := h.step hm
  have hw : D.withE 0 0 = if D.off then 13 else 0 := by
    unfold Dk.withE
    rw [if_neg (by have := hk.safe; omega)]
  unfold R3.sync Dk.sync
  rw [hw, h.off]
  cases hoff : D.off with
  | true => exact ⟨rfl, h.up⟩
  | false =>
    simp only [if_false, Bool.false_eq_true, if_true]
    unfold R3.stepE Dk.stepE at e1
    by_cases h0 : R.armed = 0
    · rw [if_pos h0] at e1
      have h1 : D.armed = 1 := Decidable.byContradiction fun hc => by rw [if_neg hc] at e1; cases e1
      rw [if_pos h0, if_pos h1]
      exact ⟨rfl, h2⟩
    · rw [if_neg h0] at e1
      have h1 : D.armed ≠ 1 := fun hc => by rw [if_pos hc] at e1; cases e1
      rw [if_neg h0, if_neg h1]
      refine ⟨rfl, ⟨?_, rfl, h2.off, h2.armed⟩⟩
      show lain R.stepped.b R.stepped.l = lain D.stepped.safe D.stepped.q
      rw [h2.b, h2.l]
theorem Rel.arm (h : Rel m D R) (n : Int) : (R.arm n).2 = (D.arm n).2 ∧ Rel (m + 1) (D.arm n).1 (R.arm n).1 := by
  unfold R3.arm Dk.arm
  by_cases h0 : n < 0
  · rw [if_pos h0, if_pos h0]
    exact ⟨rfl, h.up⟩
  · rw [if_neg h0, if_neg h0]
    refine ⟨rfl, ⟨h.b, h.l, h.off, ?_⟩⟩
    dsimp only
    by_cases h1 : n < 4611686018427387904
    · rw [if_pos h1]; omega
    · rw [if_neg h1]; omega
theorem Rel.start (h : Rel m D R) (keep : List Int) : Rel (m + 1) (D.started keep) (R.start keep) := by
  refine ⟨?_, rfl, rfl, .inl ⟨rfl, rfl⟩⟩
  show lain R.b (keptQ R.l keep) = lain D.safe (keptQ D.q keep)
  rw [h.b, h.l]
end
end Go.Proofs.YtefhkhocbcnbcaaDoor
