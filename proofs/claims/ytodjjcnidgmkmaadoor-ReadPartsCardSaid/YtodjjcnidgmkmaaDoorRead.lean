/- Layer 14 without a program: items, queues, what is taken out, the rounds; greedy sublists. -/
import Derived.Test.YtodjjcnidgmkmaaDoorFlat
namespace Go.Proofs.YtodjjcnidgmkmaaDoor
set_option linter.unusedVariables false
set_option linter.unusedSimpArgs false
structure It where
  t : Int
  r : Int
  i : Int
  k : Int
def itc (x : It) : List Value := [.int .i64 x.t, .int .i64 x.r, .int .i64 x.i, .int .i64 x.k]
def itA (x : It) : Value := .agg #[.int .i64 x.t, .int .i64 x.r, .int .i64 x.i, .int .i64 x.k]
theorem itc_len (x : It) : (itc x).length = 4 := rfl
theorem itc_one (l : List It) : ∀ u ∈ flat itc l, u.oneCell' = true := by
  intro u hu
  simp only [flat, List.mem_flatMap, itc] at hu
  obtain ⟨x, _, hx⟩ := hu
  simp only [List.mem_cons, List.not_mem_nil, or_false] at hx
  rcases hx with rfl | rfl | rfl | rfl <;> rfl
def toIt (r : List Int) : It := ⟨r.getD 0 0, r.getD 1 0, r.getD 2 0, r.getD 3 0⟩
theorem flat_toIt (L : List (List Int)) (h : ∀ r ∈ L, r.length = 4) : flat ii L = flat itc (L.map toIt) := by
  induction L with
  | nil => rfl
  | cons r L ih =>
    rw [List.map_cons, flat_cons, flat_cons, ih (fun r' hr' => h r' (by simp [hr']))]
    congr 1
    match r, h r (by simp) with
    | [a, b, c, d], _ => rfl
def It.wf (x : It) : Prop := I64 x.t ∧ I64 x.r ∧ I64 x.i ∧ I64 x.k
theorem toIt_wf (r : List Int) (h : r.length = 4) (hz : ∀ z ∈ r, I64 z) : (toIt r).wf := by
  match r, h with
  | [a, b, c, d], _ => exact ⟨hz a (by simp), hz b (by simp), hz c (by simp), hz d (by simp)⟩
def okN (n : Int) : Bool := !(decide (n < 0) || decide (1099511627776 < n))
def itMay (x : It) : Bool := okN x.t && okN x.r && okN x.i && okN x.k
def quMay (lim : Int) (l : List It) : Bool := decide (1 ≤ lim) && decide (lim ≤ 4096) && decide ((l.length : Int) ≤ lim) && l.all itMay
/-- Those that are left; the tokens of those that come out. -/
def leftOf (p : It → Bool) (l : List It) : List It := l.filter fun x => !p x
def outOf (p : It → Bool) (l : List It) : List Int := (l.filter p).map It.k
def isTake (term heard applied : Int) (x : It) : Bool := x.t == term && decide (x.r ≤ heard) && decide (x.i ≤ applied)
def isFail (term : Int) (x : It) : Bool := x.t != term
theorem left_out_length (p : It → Bool) (l : List It) : (leftOf p l).length + (outOf p l).length = l.length := by
  induction l with
  | nil => rfl
  | cons x l ih =>
    unfold leftOf outOf at *
    by_cases h : p x = true
    · simp only [List.filter_cons, h, Bool.not_true, if_true, Bool.false_eq_true, if_false, List.map_cons, List.length_cons] at *
      omega
    · have h' : p x = false := by simpa using h
      simp only [List.filter_cons, h', Bool.not_false, if_true, Bool.false_eq_true, if_false, List.length_cons] at *
      omega
/-! ### greedy sublists -/
theorem greedy_hit {α : Type} {x : α} {a b : List α} (h : (x :: a).Sublist (x :: b)) : a.Sublist b := by
  cases h with
  | cons _ h => exact (List.sublist_cons_self _ _).trans h
  | cons_cons _ h => exact h
theorem greedy_miss {α : Type} {x y : α} {a b : List α} (h : (x :: a).Sublist (y :: b)) (hne : y ≠ x) : (x :: a).Sublist b := by
  cases h with
  | cons _ h => exact h
  | cons_cons _ h => exact absurd rfl hne
theorem filter_more {α : Type} (p q : α → Bool) (h : ∀ x, p x = true → q x = true) (l : List α) : (l.filter p).Sublist (l.filter q) := by
  induction l with
  | nil => exact List.Sublist.refl _
  | cons x l ih =>
    by_cases hp : p x = true
    · simp only [List.filter_cons, hp, h x hp, if_true]
      exact ih.cons_cons x
    · by_cases hq : q x = true
      · simp only [List.filter_cons, hp, hq, if_true, if_false, Bool.false_eq_true]
        exact ih.cons x
      · simp only [List.filter_cons, hp, hq, if_false, Bool.false_eq_true]
        exact ih
theorem take_later (term h a h' a' : Int) (h1 : h ≤ h') (h2 : a ≤ a') (l : List It) : (outOf (isTake term h a) l).Sublist (outOf (isTake term h' a') l) := by
  unfold outOf
  apply List.Sublist.map
  apply filter_more
  intro x hx
  simp only [isTake, Bool.and_eq_true, beq_iff_eq, decide_eq_true_eq] at hx ⊢
  omega
/-! ### the rounds -/
def roundsOf (term : Int) (l : List It) : List Int := (l.filter fun x => x.t == term).map It.r
/-- The numbers of a list, each once, in order. -/
def Ranked (S zs : List Int) : Prop := S.Pairwise (· < ·) ∧ ∀ z, z ∈ S ↔ z ∈ zs
/-- The least number above 'last' among the first ones; -1: none. -/
def Least (zs : List Int) (last next : Int) : Prop := (next = -1 ∧ ∀ z ∈ zs, z ≤ last) ∨ (next ∈ zs ∧ last < next ∧ ∀ z ∈ zs, last < z → next ≤ z)
theorem Least.nil (last : Int) : Least [] last (-1) := .inl ⟨rfl, by simp⟩
theorem Least.skip {zs : List Int} {last next z : Int} (h : Least zs last next) (hz : z ≤ last ∨ 0 ≤ next ∧ next ≤ z) (hl : -1 ≤ last) : Least (zs ++ [z]) last next := by
  rcases h with ⟨h1, h2⟩ | ⟨h1, h2, h3⟩
  · refine .inl ⟨h1, fun y hy => ?_⟩
    rcases List.mem_append.1 hy with hy | hy
    · exact h2 y hy
    · obtain rfl := List.mem_singleton.1 hy
      omega
  · refine .inr ⟨by simp [h1], h2, fun y hy hlt => ?_⟩
    rcases List.mem_append.1 hy with hy | hy
    · exact h3 y hy hlt
    · obtain rfl := List.mem_singleton.1 hy
      omega
theorem Least.hit {zs : List Int} {last next z : Int} (h : Least zs last next) (hz : last < z) (hn : next < 0 ∨ z < next) (hl : -1 ≤ last) : Least (zs ++ [z]) last z := by
  refine .inr ⟨by simp, hz, fun y hy hlt => ?_⟩
  rcases List.mem_append.1 hy with hy | hy
  · rcases h with ⟨h1, h2⟩ | ⟨h1, h2, h3⟩
    · have := h2 y hy; omega
    · have := h3 y hy hlt; omega
  · obtain rfl := List.mem_singleton.1 hy
    omega
/-- What is least above S's first k ones is S's next one. -/
theorem Least.next {S zs : List Int} {last next : Int} {k : Nat} (hS : Ranked S zs) (h0 : ∀ z ∈ zs, 0 ≤ z) (hk : k ≤ S.length) (hlast : last = if k = 0 then -1 else S.getD (k - 1) 0) (h : Least zs last next) :
    (next = -1 ∧ k = S.length) ∨ (0 ≤ next ∧ k < S.length ∧ next = S.getD k 0) := by
  have hlt : ∀ i j, i < j → j < S.length → S.getD i 0 < S.getD j 0 := by
    intro i j hij hj
    have := List.pairwise_iff_getElem.1 hS.1 i j (by omega) hj hij
    rw [List.getD_eq_getElem?_getD, List.getD_eq_getElem?_getD, List.getElem?_eq_getElem (by omega), List.getElem?_eq_getElem hj]
    exact this
  have hmem : ∀ i, i < S.length → S.getD i 0 ∈ zs := by
    intro i hi
    apply (hS.2 _).1
    rw [List.getD_eq_getElem?_getD, List.getElem?_eq_getElem hi]
    exact List.getElem_mem hi
  have hgt : k < S.length → last < S.getD k 0 := by
    intro hks
    by_cases h0' : k = 0
    · rw [hlast, if_pos h0']
      have := h0 _ (hmem k hks)
      omega
    · rw [hlast, if_neg h0']
      exact hlt (k - 1) k (by omega) hks
  rcases h with ⟨h1, h2⟩ | ⟨h1, h2, h3⟩
  · left
    refine ⟨h1, ?_⟩
    rcases Nat.lt_or_ge k S.length with hks | hks
    · have := h2 _ (hmem k hks)
      have := hgt hks
      omega
    · omega
  · right
    have hin := (hS.2 next).2 h1
    obtain ⟨j, hj, hjn⟩ := List.mem_iff_getElem.1 hin
    have hjn' : S.getD j 0 = next := by rw [List.getD_eq_getElem?_getD, List.getElem?_eq_getElem hj]; exact hjn
    have hkj : k ≤ j := by
      rcases Nat.lt_or_ge j k with hjk | hjk
      · rw [hlast, if_neg (by omega)] at h2
        rcases Nat.lt_or_ge j (k - 1) with hjk' | hjk'
        · have := hlt j (k - 1) hjk' (by omega)
          omega
        · obtain rfl : j = k - 1 := by omega
          omega
      · exact hjk
    have hks : k < S.length := by omega
    have h4 := h3 _ (hmem k hks) (hgt hks)
    refine ⟨h0 _ h1, hks, ?_⟩
    rcases Nat.lt_or_ge k j with hlt' | hge
    · have := hlt k j hlt' hj
      omega
    · obtain rfl : k = j := by omega
      exact hjn'.symm
theorem Ranked.unique {S S' zs : List Int} (h : Ranked S zs) (h' : Ranked S' zs) : S = S' := by
  have hm : ∀ z, z ∈ S ↔ z ∈ S' := fun z => (h.2 z).trans (h'.2 z).symm
  have h1 := h.1
  have h2 := h'.1
  clear h h'
  induction S generalizing S' with
  | nil =>
    cases S' with
    | nil => rfl
    | cons y S' => have := (hm y).2 (by simp); simp at this
  | cons x S ih =>
    cases S' with
    | nil => have := (hm x).1 (by simp); simp at this
    | cons y S' =>
      rw [List.pairwise_cons] at h1 h2
      have hxy : x = y := by
        rcases List.mem_cons.1 ((hm x).1 (by simp)) with e | e
        · exact e
        · rcases List.mem_cons.1 ((hm y).2 (by simp)) with e' | e'
          · exact e'.symm
          · have := h2.1 x e
            have := h1.1 y e'
            omega
      subst hxy
      congr 1
      refine ih ?_ h1.2 h2.2
      intro z
      constructor
      · intro hz
        rcases List.mem_cons.1 ((hm z).1 (by simp [hz])) with e | e
        · subst e; have := h1.1 z hz; omega
        · exact e
      · intro hz
        rcases List.mem_cons.1 ((hm z).2 (by simp [hz])) with e | e
        · subst e; have := h2.1 z hz; omega
        · exact e
end Go.Proofs.YtodjjcnidgmkmaaDoor
