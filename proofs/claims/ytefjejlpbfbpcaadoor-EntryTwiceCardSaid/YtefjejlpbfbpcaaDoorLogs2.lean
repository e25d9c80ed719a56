/- Plain law of logs, on. -/
import Derived.Test.YtefjejlpbfbpcaaDoorLogs
namespace Go.Proofs.YtefjejlpbfbpcaaDoor
set_option linter.unusedVariables false
set_option linter.unusedSimpArgs false
theorem rgt_at {ix : Int} {l : List En} : ∀ {tm : Int} {k : Nat}, rgt ix tm k l = true → ∀ (i : Nat) (e : En), l[i]? = some e → e.a = ix + k + i + 1 ∧ 1 ≤ e.a ∧ e.a ≤ 1099511627776 ∧ 1 ≤ e.b ∧ e.b ≤ 1099511627776 ∧ e.d.length ≤ 4096 := by
  induction l with
  | nil => intro tm k h i e hi; simp at hi
  | cons x l ih =>
    intro tm k h i e hi
    rw [rgt, Bool.and_eq_true] at h
    obtain ⟨h1, h2⟩ := h
    rw [okE_iff] at h1
    cases i with
    | zero =>
      simp at hi
      subst hi
      refine ⟨?_, h1.1, h1.2.2.1, h1.2.2.2.2.1, h1.2.2.2.2.2.1, h1.2.2.2.2.2.2.2.2⟩
      have := h1.2.1
      simp
      omega
    | succ i =>
      have := ih h2 i e (by simpa using hi)
      refine ⟨?_, this.2⟩
      have := this.1
      push_cast at this ⊢
      omega
theorem lmay_iff {b t : Int} {l : List En} : lmay b t l = true ↔ ((b = 0 ∧ t = 0) ∨ (1 ≤ b ∧ b ≤ 1099511627776 ∧ 1 ≤ t ∧ t ≤ 1099511627776)) ∧ l.length ≤ 4096 ∧ rgt b t 0 l = true := by
  unfold lmay
  simp only [Bool.and_eq_true, Bool.or_eq_true, decide_eq_true_eq, and_assoc]
theorem lmay_at {b t : Int} {l : List En} (h : lmay b t l = true) {i : Nat} {e : En} (hi : l[i]? = some e) : e.a = b + i + 1 ∧ 1 ≤ e.a ∧ e.a ≤ 1099511627776 ∧ 1 ≤ e.b ∧ e.b ≤ 1099511627776 ∧ e.d.length ≤ 4096 := by
  have := rgt_at (lmay_iff.1 h).2.2 i e hi
  simpa using this
theorem lmay_last {b t : Int} {l : List En} (h : lmay b t l = true) : lstA b l = b + l.length := by
  by_cases h0 : l.length = 0
  · rw [List.eq_nil_of_length_eq_zero h0]
    simp [lstA]
  · obtain ⟨e, he, ha, _⟩ := lstA_len (b := b) (l := l) (by omega)
    rw [ha, (lmay_at h he).1]
    omega
/-- The term of an index, or an error's number. -/
def termL (b t : Int) (l : List En) (ix : Int) : Int × Int := if lstA b l < ix ∨ ix < 0 then (8, 0) else if ix < b then (22, 0) else if ix = b then (0, t) else (0, (l[(ix - b - 1).toNat]?.map (·.b)).getD 0)
end Go.Proofs.YtefjejlpbfbpcaaDoor
