/- One deed at the disk, and at the document's: in plain words. -/
import Derived.Test.YtefhkhocbcnbcaaDoorR3
import Derived.Test.YtefhkhocbcnbcaaDoorActs
namespace Go.Proofs.YtefhkhocbcnbcaaDoor
open Go.RowKit
set_option linter.unusedVariables false
/-- Which deed: a number below eight. -/
def kindL (a : Int) : Int := a % 8
def Dk.act (D : Dk) (y : Ac) : Dk × Int := if kindL y.a = 3 ∨ kindL y.a = 4 then D.sync else if kindL y.a = 5 then (D, 0) else if kindL y.a = 6 then D.arm y.c else if kindL y.a = 7 then (D.started y.k, 0) else D.write y.b y.d
def R3.act (R : R3) (y : Ac) : R3 × Int := if kindL y.a = 3 ∨ kindL y.a = 4 then R.sync else if kindL y.a = 5 then (R, 0) else if kindL y.a = 6 then R.arm y.c else if kindL y.a = 7 then (R.start y.k, 0) else R.put y.b y.d
theorem Dk.step_q (D : Dk) : D.stepped.q = D.q := by unfold Dk.stepped; split <;> rfl
section
variable {m z : Nat} {D : Dk} {R : R3} {y : Ac}
theorem Rel.act (h : Rel m D R) (hm : m ≤ 1000) (hk : D.Ok z) : (R.act y).2 = (D.act y).2 ∧ Rel (m + 1) (D.act y).1 (R.act y).1 := by
  unfold R3.act Dk.act
  split
  · exact h.sync hm hk
  split
  · exact ⟨rfl, h.up⟩
  split
  · exact h.arm y.c
  split
  · exact ⟨rfl, h.start y.k⟩
  · exact h.put hm y.b y.d
theorem Dk.Ok.act (h : D.Ok z) (hc : y.c ≤ 9223372036854775807) : (D.act y).1.Ok z := by
  unfold Dk.act
  split
  · exact h.sync
  split
  · exact h
  split
  · exact h.arm hc
  split
  · exact h.started
  · exact h.write
theorem act_q (D : Dk) (y : Ac) : (D.act y).1.q.length ≤ D.q.length + 1 := by
  unfold Dk.act
  split
  · unfold Dk.sync
    split
    · split
      · dsimp only
        rw [Dk.step_q]
        omega
      · exact Nat.zero_le _
    · exact Nat.le_succ _
  split
  · exact Nat.le_succ _
  split
  · unfold Dk.arm
    split <;> exact Nat.le_succ _
  split
  · exact Nat.zero_le _
  · unfold Dk.write
    split
    · dsimp only
      rw [Dk.step_q]
      simp [Dk.put]
    · exact Nat.le_succ _
/-- How many steps: within an int. -/
theorem Rel.bounds (h : Rel m D R) (hm : m ≤ 1000) (hk : D.Ok z) : -1 ≤ R.armed ∧ R.armed ≤ 9223372036854775807 := by
  have h1 := h.armed
  have h2 := hk.lo
  have h3 := hk.hi
  omega
theorem Rel.qlen (h : Rel m D R) : R.l.length = D.q.length := by rw [h.l]
theorem Rel.fit (h : Rel m D R) (hk : D.Ok z) : Fit z R.l := by rw [h.l]; exact hk.fit
theorem Rel.blen (h : Rel m D R) (hk : D.Ok z) : R.b.length = z := by rw [h.b]; exact hk.safe
/-- All deeds, one behind the other. -/
def Dk.acts (D : Dk) (l : List Ac) : Dk := l.foldl (fun D y => (D.act y).1) D
def R3.acts (R : R3) (l : List Ac) : R3 := l.foldl (fun R y => (R.act y).1) R
theorem Dk.acts_one (D : Dk) (l : List Ac) (y : Ac) : D.acts (l ++ [y]) = ((D.acts l).act y).1 := by unfold Dk.acts; rw [List.foldl_append]; rfl
theorem R3.acts_one (R : R3) (l : List Ac) (y : Ac) : R.acts (l ++ [y]) = ((R.acts l).act y).1 := by unfold R3.acts; rw [List.foldl_append]; rfl
end
end Go.Proofs.YtefhkhocbcnbcaaDoor
