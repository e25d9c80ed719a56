/- Plain law of logs: what is left behind an index. -/
import Derived.Test.YtefjejlpbfbpcaaDoorLogs2
namespace Go.Proofs.YtefjejlpbfbpcaaDoor
set_option linter.unusedVariables false
set_option linter.unusedSimpArgs false
theorem okE_shift {ix tm : Int} {k : Nat} {e : En} : okE ix tm (k + 1) e = okE (ix + 1) tm k e := by
  have : decide (e.a - ((k + 1 : Nat) : Int) - 1 = ix) = decide (e.a - (k : Int) - 1 = ix + 1) := by
    apply decide_eq_decide.2
    constructor <;> intro h <;> push_cast at * <;> omega
  unfold okE
  rw [this]
theorem rgt_shift {ix : Int} {l : List En} : ∀ {tm : Int} {k : Nat}, rgt ix tm (k + 1) l = rgt (ix + 1) tm k l := by
  induction l with
  | nil => intro tm k; rfl
  | cons e l ih =>
    intro tm k
    rw [rgt, rgt, okE_shift, ih]
/-- The term ahead of the m-th entry. -/
def trm (tm : Int) (l : List En) : Nat → Int
  | 0 => tm
  | m + 1 => (l[m]?.map (·.b)).getD 0
theorem rgt_drop {l : List En} : ∀ {ix tm : Int} (m : Nat), rgt ix tm 0 l = true → m ≤ l.length → rgt (ix + m) (trm tm l m) 0 (l.drop m) = true := by
  induction l with
  | nil =>
    intro ix tm m h hm
    simp [rgt]
  | cons e l ih =>
    intro ix tm m h hm
    cases m with
    | zero => simpa [trm] using h
    | succ m =>
      rw [rgt, Bool.and_eq_true, Nat.zero_add, show (1 : Nat) = 0 + 1 from rfl, rgt_shift] at h
      have := ih m h.2 (by simpa using hm)
      rw [List.drop_succ_cons, show ix + ((m + 1 : Nat) : Int) = ix + 1 + m by push_cast; omega]
      cases m with
      | zero => simpa [trm] using this
      | succ m => simpa [trm] using this
theorem lmay_drop {b t ix : Int} {l : List En} {m : Nat} (h : lmay b t l = true) (hm : m ≤ l.length) (hx : ix = b + m) : termL b t l ix = (0, trm t l m) ∧ lmay ix (trm t l m) (l.drop m) = true ∧ lstA ix (l.drop m) = lstA b l ∧ lstB (trm t l m) (l.drop m) = lstB t l := by
  have hl := lmay_last h
  obtain ⟨h1, h2, h3⟩ := lmay_iff.1 h
  have ht : termL b t l ix = (0, trm t l m) := by
    unfold termL
    rw [if_neg (by omega), if_neg (by omega)]
    cases m with
    | zero => rw [if_pos (by simpa using hx)]; rfl
    | succ m =>
      rw [if_neg (by omega)]
      have e1 : (ix - b - 1).toNat = m := by omega
      rw [e1]
      rfl
  have hm2 : lmay ix (trm t l m) (l.drop m) = true := by
    refine lmay_iff.2 ⟨?_, by simp; omega, by rw [hx]; exact rgt_drop m h3 hm⟩
    cases m with
    | zero =>
      rw [show ix = b by simpa using hx]
      exact h1
    | succ m =>
      right
      have he := List.getElem?_eq_getElem (l := l) (i := m) (by omega)
      have := lmay_at h he
      simp only [trm, he, Option.map_some, Option.getD_some]
      omega
  refine ⟨ht, hm2, ?_, ?_⟩
  · rw [lmay_last hm2, hl, List.length_drop]
    omega
  · by_cases hml : m = l.length
    · subst hml
      rw [List.drop_length]
      cases hll : l.length with
      | zero => rw [List.eq_nil_of_length_eq_zero hll]; rfl
      | succ k =>
        obtain ⟨e, he, _, hb⟩ := lstA_len (b := b) (l := l) (by omega)
        rw [hb t]
        have : l.length - 1 = k := by omega
        rw [this] at he
        simp [lstB, trm, he]
    · obtain ⟨e, he, _, hb⟩ := lstA_len (b := b) (l := l) (by omega)
      obtain ⟨e', he', _, hb'⟩ := lstA_len (b := b) (l := l.drop m) (by simp; omega)
      rw [hb t, hb' _]
      rw [List.getElem?_drop, List.length_drop, show m + (l.length - m - 1) = l.length - 1 by omega, he] at he'
      rw [Option.some.inj he']
/-- Within what is left each index has the same term. -/
theorem termL_drop {b t ix i : Int} {l : List En} {m : Nat} (h : lmay b t l = true) (hm : m ≤ l.length) (hx : ix = b + m) (h1 : ix ≤ i) (h2 : i ≤ lstA b l) : ∃ v, termL b t l i = (0, v) ∧ termL ix (trm t l m) (l.drop m) i = (0, v) := by
  obtain ⟨e1, e2, e3, e4⟩ := lmay_drop h hm hx
  have hl := lmay_last h
  obtain ⟨h3, h4, h5⟩ := lmay_iff.1 h
  obtain ⟨k, hk⟩ : ∃ k : Nat, i = b + k := ⟨(i - b).toNat, by omega⟩
  refine ⟨trm t l k, (lmay_drop h (by omega) hk).1, ?_⟩
  have := (lmay_drop (ix := i) (m := k - m) e2 (by simp; omega) (by omega)).1
  rw [this]
  congr 1
  obtain ⟨d, rfl⟩ : ∃ d, k = m + d := ⟨k - m, by omega⟩
  cases d with
  | zero => simp [trm]
  | succ d =>
    rw [show m + (d + 1) - m = d + 1 by omega]
    show ((l.drop m)[d]?.map (·.b)).getD 0 = (l[m + d]?.map (·.b)).getD 0
    rw [List.getElem?_drop]
end Go.Proofs.YtefjejlpbfbpcaaDoor
