/- Plain law: where somebody would stand among the members. -/
import Derived.Test.YtedcjakgdoiomaaDoorPlain
namespace Go.Proofs.YtedcjakgdoiomaaDoor
set_option linter.unusedVariables false
theorem low_lt {z x : Int} {l : List Int} {h : Nat} (hp : l.Pairwise (· < ·)) (hx : l[h]? = some x) (h1 : x < z) : h + 1 ≤ low z l := by
  rcases Nat.lt_or_ge h (low z l) with h2 | h2
  · exact h2
  · have h3 : x ∈ l.drop (low z l) := List.mem_of_getElem? (i := h - low z l) (by rw [List.getElem?_drop, show low z l + (h - low z l) = h by omega]; exact hx)
    have := low_after hp x h3
    omega
theorem low_ge {z x : Int} {l : List Int} {h : Nat} (hx : l[h]? = some x) (h1 : ¬ x < z) : low z l ≤ h := by
  rcases Nat.lt_or_ge h (low z l) with h2 | h2
  · exact absurd (low_before x (List.mem_of_getElem? (i := h) (by rw [List.getElem?_take, if_pos h2]; exact hx))) h1
  · exact h2
theorem low_mem {z : Int} {l : List Int} (hp : l.Pairwise (· < ·)) : z ∈ l ↔ l[low z l]? = some z := by
  constructor
  · intro hz
    obtain ⟨h, hx⟩ := List.getElem?_of_mem hz
    have h1 := low_ge hx (Int.lt_irrefl z)
    rcases Nat.lt_or_ge (low z l) h with h2 | h2
    · have hl := (List.getElem?_eq_some_iff.1 hx).1
      have h3 := List.getElem?_eq_getElem (l := l) (i := low z l) (by omega)
      have h4 := low_after (z := z) hp (l[low z l]'(by omega)) (List.mem_of_getElem? (i := 0) (by rw [List.getElem?_drop]; exact h3))
      have h5 := List.pairwise_iff_getElem.1 hp (low z l) h (by omega) hl h2
      have h6 : l[h] = z := (List.getElem?_eq_some_iff.1 hx).2
      omega
    · rw [show low z l = h by omega]; exact hx
  · exact List.mem_of_getElem?
theorem del_at {z : Int} {l : List Int} {j : Nat} (hp : l.Pairwise (· < ·)) (hx : l[j]? = some z) : del z l = l.take j ++ l.drop (j + 1) := by
  obtain ⟨hj, he⟩ := List.getElem?_eq_some_iff.1 hx
  have e : l = l.take j ++ z :: l.drop (j + 1) := by
    conv => lhs; rw [← List.take_append_drop j l, List.drop_eq_getElem_cons hj, he]
  have hp2 := hp
  rw [e, List.pairwise_append, List.pairwise_cons] at hp2
  obtain ⟨_, ⟨h2, _⟩, h3⟩ := hp2
  unfold del
  conv => lhs; rw [e]
  rw [List.filter_append, List.filter_cons, if_neg (by simp)]
  congr 1
  · rw [List.filter_eq_self]
    intro x hx
    have := h3 x hx z (by simp)
    simp only [Bool.not_eq_true', decide_eq_false_iff_not]
    omega
  · rw [List.filter_eq_self]
    intro x hx
    have := h2 x hx
    simp only [Bool.not_eq_true', decide_eq_false_iff_not]
    omega
/-- The members with one more, or an error's number. -/
def addOf (l : List Int) (z : Int) : Int × List Int := if cmay l = false ∨ z < 1 ∨ 64 < z then (1, []) else if z ∈ l then (9, []) else if 7 ≤ l.length then (10, []) else (0, ins z l)
def remOf (l : List Int) (z : Int) : Int × List Int := if cmay l = false then (1, []) else if z ∉ l then (8, []) else if l.length = 1 then (1, []) else (0, del z l)
theorem addOf_zero {l : List Int} {z : Int} (h : (addOf l z).1 = 0) : addOf l z = (0, ins z l) ∧ cmay l = true ∧ 1 ≤ z ∧ z ≤ 64 ∧ z ∉ l ∧ l.length < 7 := by
  unfold addOf at h ⊢
  split at h
  · simp at h
  · rename_i h1
    rw [if_neg h1]
    split at h
    · simp at h
    · rename_i h2
      rw [if_neg h2]
      split at h
      · simp at h
      · rename_i h3
        rw [if_neg h3]
        rw [not_or, not_or] at h1
        exact ⟨rfl, by simpa using h1.1, by omega, by omega, h2, by omega⟩
theorem remOf_zero {l : List Int} {z : Int} (h : (remOf l z).1 = 0) : remOf l z = (0, del z l) ∧ cmay l = true ∧ z ∈ l ∧ 2 ≤ l.length := by
  unfold remOf at h ⊢
  split at h
  · simp at h
  · rename_i h1
    rw [if_neg h1]
    split at h
    · simp at h
    · rename_i h2
      rw [if_neg h2]
      split at h
      · simp at h
      · rename_i h3
        rw [if_neg h3]
        have hc : cmay l = true := by simpa using h1
        have := (cmay_iff.1 hc).2.2.1
        exact ⟨rfl, hc, by simpa using h2, by omega⟩
theorem addOf_yes {l : List Int} {z : Int} (hc : cmay l = true) (h1 : 1 ≤ z) (h2 : z ≤ 64) (h3 : z ∉ l) (h4 : l.length < 7) : addOf l z = (0, ins z l) := by
  unfold addOf
  rw [if_neg (by rw [hc]; simp; omega), if_neg h3, if_neg (by omega)]
theorem remOf_yes {l : List Int} {z : Int} (hc : cmay l = true) (h1 : z ∈ l) (h2 : 2 ≤ l.length) : remOf l z = (0, del z l) := by
  unfold remOf
  rw [if_neg (by rw [hc]; simp), if_neg (by simpa using h1), if_neg (by omega)]
theorem turn_add {l : List Int} {z : Int} (h : (addOf l z).1 = 0) : remOf (addOf l z).2 z = (0, l) ∧ near (addOf l z).2 l = true ∧ cmay (addOf l z).2 = true ∧ z ∈ (addOf l z).2 := by
  obtain ⟨e, hc, h1, h2, h3, h4⟩ := addOf_zero h
  have hp := (cmay_iff.1 hc).2.1
  have hl := (cmay_iff.1 hc).2.2.1
  have hm := ins_may hc h3 h1 h2 h4
  rw [e]
  refine ⟨?_, (near_ins hc h3 h1 h2 h4).2, hm, mem_ins.2 (.inl rfl)⟩
  rw [remOf_yes hm (mem_ins.2 (.inl rfl)) (by rw [ins_length]; omega), del_ins hp h3]
theorem turn_rem {l : List Int} {z : Int} (h : (remOf l z).1 = 0) : addOf (remOf l z).2 z = (0, l) ∧ near (remOf l z).2 l = true ∧ z ∉ (remOf l z).2 := by
  obtain ⟨e, hc, h1, h2⟩ := remOf_zero h
  have hp := (cmay_iff.1 hc).2.1
  have hr := (cmay_iff.1 hc).1 z h1
  have hl := (cmay_iff.1 hc).2.2.2
  have hd := del_length hp h1
  rw [e]
  refine ⟨?_, (near_del hc h1 h2).2, fun h => (mem_del.1 h).2 rfl⟩
  rw [addOf_yes (del_may hc h1 h2) (by omega) hr.2 (fun h => (mem_del.1 h).2 rfl) (by omega), ins_del hp h1]
theorem turn_one {l : List Int} {z : Int} (hc : cmay l = true) : (addOf l z).1 = 0 ∨ (remOf l z).1 = 0 ∨ l.length = 7 ∨ l.length = 1 ∨ z < 1 ∨ 64 < z := by
  have hl := cmay_iff.1 hc
  by_cases h1 : z < 1
  · exact .inr (.inr (.inr (.inr (.inl h1))))
  · by_cases h2 : 64 < z
    · exact .inr (.inr (.inr (.inr (.inr h2))))
    · by_cases h3 : l.length = 7
      · exact .inr (.inr (.inl h3))
      · by_cases h4 : l.length = 1
        · exact .inr (.inr (.inr (.inl h4)))
        · by_cases h5 : z ∈ l
          · exact .inr (.inl (by rw [remOf_yes hc h5 (by omega)]))
          · exact .inl (by rw [addOf_yes hc (by omega) (by omega) h5 (by omega)])
end Go.Proofs.YtedcjakgdoiomaaDoor
