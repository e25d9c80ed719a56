/- Slices of structs of integers: what they read as, row by row. -/
import Derived.Test.YtefjejlpbfbpcaaDoorOpen
import Derived.Test.YtefjejlpbfbpcaaDoorBox
import Derived.Test.YtefjejlpbfbpcaaDoorArr
namespace Go.Proofs.YtefjejlpbfbpcaaDoor
open Go.ChangeShapes Go.WideShapes Go.ChangeAt Go.RowKit Go.Joins Go.Deep
set_option linter.unusedVariables false
set_option linter.unusedSimpArgs false
theorem Bx.c1 {W : World} {g : Nat} {a : Value} (h : Bx W g #[a]) : W.cell? ⟨g, 0, none⟩ = some a ∧ W.frozen? ⟨g, 0, none⟩ = false := ⟨h.c 0, h.f 0⟩
theorem Bx.c2 {W : World} {g : Nat} {a b : Value} (h : Bx W g #[a, b]) : W.cell? ⟨g, 0, none⟩ = some a ∧ W.cell? ⟨g, 1, none⟩ = some b ∧ W.frozen? ⟨g, 0, none⟩ = false ∧ W.frozen? ⟨g, 1, none⟩ = false := ⟨h.c 0, h.c 1, h.f 0, h.f 1⟩
theorem Bx.c3 {W : World} {g : Nat} {a b c : Value} (h : Bx W g #[a, b, c]) : W.cell? ⟨g, 0, none⟩ = some a ∧ W.cell? ⟨g, 1, none⟩ = some b ∧ W.cell? ⟨g, 2, none⟩ = some c ∧ W.frozen? ⟨g, 0, none⟩ = false ∧ W.frozen? ⟨g, 1, none⟩ = false ∧ W.frozen? ⟨g, 2, none⟩ = false := ⟨h.c 0, h.c 1, h.c 2, h.f 0, h.f 1, h.f 2⟩
theorem Bx.c4 {W : World} {g : Nat} {a b c d : Value} (h : Bx W g #[a, b, c, d]) : W.cell? ⟨g, 0, none⟩ = some a ∧ W.cell? ⟨g, 1, none⟩ = some b ∧ W.cell? ⟨g, 2, none⟩ = some c ∧ W.cell? ⟨g, 3, none⟩ = some d ∧ W.frozen? ⟨g, 0, none⟩ = false ∧ W.frozen? ⟨g, 1, none⟩ = false ∧ W.frozen? ⟨g, 2, none⟩ = false ∧ W.frozen? ⟨g, 3, none⟩ = false := ⟨h.c 0, h.c 1, h.c 2, h.c 3, h.f 0, h.f 1, h.f 2, h.f 3⟩
/-- The cells of a list, element by element. -/
def flat {α : Type} (enc : α → List Value) (l : List α) : List Value := l.flatMap enc
section
variable {α : Type} {enc : α → List Value} {k : Nat} (hk : ∀ x, (enc x).length = k)
theorem flat_nil : flat enc ([] : List α) = [] := rfl
theorem flat_cons (x : α) (l : List α) : flat enc (x :: l) = enc x ++ flat enc l := rfl
theorem flat_append (a b : List α) : flat enc (a ++ b) = flat enc a ++ flat enc b := by simp [flat]
theorem flat_one (x : α) : flat enc [x] = enc x := by simp [flat]
include hk
theorem flat_length (l : List α) : (flat enc l).length = l.length * k := by
  induction l with
  | nil => simp [flat]
  | cons x l ih => rw [flat_cons, List.length_append, hk, ih, List.length_cons, Nat.succ_mul, Nat.add_comm]
theorem flat_take (l : List α) (i : Nat) : flat enc (l.take i) = (flat enc l).take (i * k) := by
  induction l generalizing i with
  | nil => simp [flat]
  | cons x l ih =>
    cases i with
    | zero => simp [flat]
    | succ i =>
      have e : (i + 1) * k = (enc x).length + i * k := by rw [hk, Nat.succ_mul, Nat.add_comm]
      rw [List.take_succ_cons, flat_cons, flat_cons, ih, e, List.take_length_add_append]
theorem flat_drop (l : List α) (i : Nat) : flat enc (l.drop i) = (flat enc l).drop (i * k) := by
  induction l generalizing i with
  | nil => simp [flat]
  | cons x l ih =>
    cases i with
    | zero => simp [flat]
    | succ i =>
      have e : (i + 1) * k = (enc x).length + i * k := by rw [hk, Nat.succ_mul, Nat.add_comm]
      rw [List.drop_succ_cons, flat_cons, ih, e, List.drop_length_add_append]
theorem flat_get {l : List α} {i j : Nat} {x : α} (hx : l[i]? = some x) (hj : j < k) : (flat enc l)[i * k + j]? = (enc x)[j]? := by
  have hi : i < l.length := (List.getElem?_eq_some_iff.1 hx).1
  have e : l = l.take i ++ x :: l.drop (i + 1) := by
    rw [← (List.getElem?_eq_some_iff.1 hx).2, List.getElem_cons_drop, List.take_append_drop]
  conv => lhs; rw [e]
  rw [flat_append, flat_cons, List.getElem?_append_right (by rw [flat_length hk, List.length_take]; have := Nat.mul_le_mul_right k (Nat.min_le_left i l.length); omega)]
  have hm : min i l.length = i := by omega
  rw [flat_length hk, List.length_take, hm, Nat.add_sub_cancel_left, List.getElem?_append_left (by rw [hk]; exact hj)]
end
/-- A row of integers. -/
def ii (r : List Int) : List Value := r.map (Value.int .i64)
section
variable {w w' : World} {ok : Nat → Prop} {n : Nat} {A : Option Addr}
theorem Rd.flen {α : Type} {enc : α → List Value} {k : Nat} {l : List α} (hk : ∀ x, (enc x).length = k) (h0 : 0 < k) (h : Rd w ok k A n (flat enc l)) : l.length = n := by
  have := h.1
  rw [flat_length hk] at this
  exact Nat.eq_of_mul_eq_mul_right h0 this
/-- Element i: where it lies, its cells. -/
theorem Rd.fat {α : Type} {enc : α → List Value} {k : Nat} {l : List α} (hk : ∀ x, (enc x).length = k) (h0 : 0 < k) (h : Rd w ok k A n (flat enc l)) {i : Nat} (hi : i < n) : ∃ b o x, A = some ⟨b, o, none⟩ ∧ ok b ∧ b < w.heap.size ∧ l[i]? = some x ∧ ∀ j u, (enc x)[j]? = some u → w.cell? ⟨b, o + (i * k + j), none⟩ = some u := by
  obtain ⟨b, o, e, hb, hlt, hc⟩ := h.plain (by omega) h0
  have hl := h.flen hk h0
  refine ⟨b, o, l[i]'(by omega), e, hb, hlt, List.getElem?_eq_getElem (by omega), fun j u hu => ?_⟩
  have hj : j < k := by rw [← hk (l[i]'(by omega))]; exact (List.getElem?_eq_some_iff.1 hu).1
  refine hc (i * k + j) u ?_
  rw [flat_get hk (List.getElem?_eq_getElem (by omega)) hj]
  exact hu
end
theorem ints4 {P : Program} {a b c d : Field} (ha : P.underlying a.type = some (.int .i64)) (hb : P.underlying b.type = some (.int .i64)) (hc : P.underlying c.type = some (.int .i64)) (hd : P.underlying d.type = some (.int .i64)) :
    ∀ (j : Nat) (f : Field), (#[a, b, c, d] : Array Field)[j]? = some f → P.underlying f.type = some (.int .i64) := by
  intro j f hj
  have hm := Array.mem_of_getElem? hj
  simp only [List.mem_toArray, List.mem_cons, List.not_mem_nil, or_false] at hm
  rcases hm with rfl | rfl | rfl | rfl <;> assumption
theorem ints2 {P : Program} {a b : Field} (ha : P.underlying a.type = some (.int .i64)) (hb : P.underlying b.type = some (.int .i64)) :
    ∀ (j : Nat) (f : Field), (#[a, b] : Array Field)[j]? = some f → P.underlying f.type = some (.int .i64) := by
  intro j f hj
  have hm := Array.mem_of_getElem? hj
  simp only [List.mem_toArray, List.mem_cons, List.not_mem_nil, or_false] at hm
  rcases hm with rfl | rfl <;> assumption
/-- Out of each element's cells: what the slice reads as. -/
theorem rd_of_key {w : World} {A : Option Addr} {n k : Nat} (hpos : 0 < k) (key : ∀ i, i < n → ∃ r : List Int, r.length = k ∧ (∀ z ∈ r, I64 z) ∧ ∃ b o, A = some ⟨b, o, none⟩ ∧ ∀ j u, (ii r)[j]? = some u → w.cell? ⟨b, o + i * k + j, none⟩ = some u) :
    ∃ L : List (List Int), Rd w T k A n (flat ii L) ∧ L.length = n ∧ (∀ r ∈ L, r.length = k ∧ ∀ z ∈ r, I64 z) := by
  have all : ∀ m, m ≤ n → ∃ L : List (List Int), L.length = m ∧ (∀ r ∈ L, r.length = k ∧ ∀ z ∈ r, I64 z) ∧ ∀ i r, L[i]? = some r → ∃ b o, A = some ⟨b, o, none⟩ ∧ ∀ j u, (ii r)[j]? = some u → w.cell? ⟨b, o + i * k + j, none⟩ = some u := by
    intro m
    induction m with
    | zero => exact fun _ => ⟨[], rfl, by simp, by simp⟩
    | succ m ih =>
      intro hm
      obtain ⟨L, hl, h1, h2⟩ := ih (by omega)
      obtain ⟨r, hr1, hr2, hr3⟩ := key m (by omega)
      refine ⟨L ++ [r], by simp [hl], ?_, ?_⟩
      · intro r' hr'
        rcases List.mem_append.1 hr' with h' | h'
        · exact h1 r' h'
        · obtain rfl := List.mem_singleton.1 h'
          exact ⟨hr1, hr2⟩
      · intro i r' hi
        by_cases hlt : i < L.length
        · rw [List.getElem?_append_left hlt] at hi
          exact h2 i r' hi
        · rw [List.getElem?_append_right (by omega)] at hi
          have e0 : i - L.length = 0 := by
            rcases Nat.eq_zero_or_pos (i - L.length) with h' | h'
            · exact h'
            · rw [List.getElem?_eq_none (by simp; omega)] at hi
              cases hi
          rw [e0] at hi
          obtain rfl := Option.some.inj hi
          obtain rfl : i = m := by omega
          exact hr3
  obtain ⟨L, hL, hL1, hL2⟩ := all n (Nat.le_refl n)
  have hlen : (flat ii L).length = n * k := by
    have : ∀ L : List (List Int), (∀ r ∈ L, r.length = k) → (flat ii L).length = L.length * k := by
      intro L
      induction L with
      | nil => intro _; simp [flat]
      | cons r L ih =>
        intro h
        rw [flat_cons, List.length_append, ih (fun r' hr' => h r' (by simp [hr'])), List.length_cons, Nat.succ_mul, Nat.add_comm]
        simp [ii, h r (by simp)]
    rw [this L (fun r hr => (hL1 r hr).1), hL]
  refine ⟨L, ⟨hlen, fun hn => ?_⟩, hL, hL1⟩
  obtain ⟨r0, _, _, b, o, hA, _⟩ := key 0 hn
  refine ⟨_, hA, trivial, fun j u hu => ?_⟩
  have hjl : j < n * k := by rw [← hlen]; exact (List.getElem?_eq_some_iff.1 hu).1
  have hq : j / k < n := (Nat.div_lt_iff_lt_mul hpos).2 hjl
  have hdm : j = (j / k) * k + j % k := by rw [Nat.mul_comm]; exact (Nat.div_add_mod j k).symm
  have hget : ∀ (L : List (List Int)), (∀ r ∈ L, r.length = k) → ∀ i m, i < L.length → m < k → (flat ii L)[i * k + m]? = (ii (L.getD i []))[m]? := by
    intro L
    induction L with
    | nil => intro _ i m hi; simp at hi
    | cons r L ih =>
      intro h i m hi hm
      have hr : (ii r).length = k := by simp [ii, h r (by simp)]
      cases i with
      | zero =>
        rw [flat_cons, Nat.zero_mul, Nat.zero_add, List.getElem?_append_left (by omega)]
        rfl
      | succ i =>
        rw [flat_cons, List.getElem?_append_right (by rw [hr, Nat.succ_mul]; omega), hr, show (i + 1) * k + m - k = i * k + m from by rw [Nat.succ_mul]; omega]
        exact ih (fun r' hr' => h r' (by simp [hr'])) i m (by simpa using hi) hm
  rw [hdm, hget L (fun r hr => (hL1 r hr).1) _ _ (by omega) (Nat.mod_lt _ hpos)] at hu
  obtain ⟨b', o', hA', hc⟩ := hL2 (j / k) (L.getD (j / k) []) (by rw [List.getD_eq_getElem?_getD, List.getElem?_eq_getElem (by omega)]; rfl)
  rw [hA] at hA'
  injection hA' with hA'
  injection hA' with e1 e2 _
  subst e1 e2
  have := hc _ u hu
  rw [Nat.add_assoc, ← hdm] at this
  have hadd : (⟨b, o, none⟩ : Addr).add j = ⟨b, o + j, none⟩ := by
    unfold Addr.add
    split
    · rename_i h0; rw [h0, Nat.add_zero]
    · rfl
  rw [hadd]
  exact this
section
variable {H : Type} {enc : TypeId × Value → H} {P : Program} {w : World} {base : Nat} {spare : Nat → Bool} {held : Bool} {fuel : Nat} {v : Value} {x : DataW H × List MemPlace} {t e : TypeId}
/-- A slice of structs of integers that comes in. -/
theorem in_flat {fs : Array Field} (ht : P.underlying t = some (.slice e)) (he : P.underlying e = some (.struct fs)) (hone : oneCellFields P fs = true) (hC : P.cellsOf e = fs.size) (hpos : 0 < fs.size)
    (hint : ∀ (j : Nat) (f : Field), fs[j]? = some f → P.underlying f.type = some (.int .i64)) (h : DataW.trod enc P w base spare held fuel t [v] = some x) :
    ∃ A n c, ∃ L : List (List Int), v = .slice A n c ∧ Rd w T fs.size A n (flat ii L) ∧ L.length = n ∧ n ≤ c ∧ c ≤ maxLen ∧ (A = none → n = 0 ∧ c = 0) ∧ (∀ r ∈ L, r.length = fs.size ∧ ∀ z ∈ r, I64 z) := by
  obtain ⟨A, n, c, hv, hnc, hcm, haz, hrow⟩ := in_rows ht he hone hC hpos h
  have key : ∀ i, i < n → ∃ r : List Int, r.length = fs.size ∧ (∀ z ∈ r, I64 z) ∧ ∃ b o, A = some ⟨b, o, none⟩ ∧ ∀ j u, (ii r)[j]? = some u → w.cell? ⟨b, o + i * fs.size + j, none⟩ = some u := by
    intro i hi
    obtain ⟨b, o, cs, m, hA, hl, hc, hf⟩ := hrow i hi
    have hz : ∀ j, j < fs.size → ∃ z, cs[j]? = some (.int .i64 z) ∧ I64 z := by
      intro j hj
      obtain ⟨u, y, hu, ht'⟩ := hf j _ (Array.getElem?_eq_getElem hj)
      obtain ⟨z, rfl, wz⟩ := in_int (hint j _ (Array.getElem?_eq_getElem hj)) ht'
      exact ⟨z, hu, i64_of_wf wz⟩
    have hex : ∃ r : List Int, cs = ii r ∧ ∀ z ∈ r, I64 z := by
      refine ⟨cs.map fun | .int _ z => z | _ => 0, ?_, ?_⟩
      · apply List.ext_getElem
        · simp [ii]
        · intro j h1 h2
          obtain ⟨z, hz1, _⟩ := hz j (by omega)
          rw [List.getElem?_eq_getElem h1] at hz1
          simp only [ii, List.getElem_map]
          rw [Option.some.inj hz1]
      · intro z hzm
        obtain ⟨u, hu, rfl⟩ := List.mem_map.1 hzm
        obtain ⟨j, hj, rfl⟩ := List.mem_iff_getElem.1 hu
        obtain ⟨z, hz1, hz2⟩ := hz j (by omega)
        rw [List.getElem?_eq_getElem hj] at hz1
        rw [Option.some.inj hz1]
        exact hz2
    obtain ⟨r, rfl, hr⟩ := hex
    exact ⟨r, by simpa [ii] using hl, hr, b, o, hA, hc⟩
  obtain ⟨L, h1, h2, h3⟩ := rd_of_key hpos key
  exact ⟨A, n, c, L, hv, h1, h2, hnc, hcm, haz, h3⟩
/-- A slice of arrays of integers that comes in. -/
theorem in_arrs {k : Nat} (e' : TypeId) (ht : P.underlying t = some (.slice e)) (he : P.underlying e = some (.array k e')) (he' : P.underlying e' = some (.int .i64)) (hce : P.cellsOf e' = 1) (hC : P.cellsOf e = k) (hpos : 0 < k)
    (h : DataW.trod enc P w base spare held fuel t [v] = some x) :
    ∃ A n c, ∃ L : List (List Int), v = .slice A n c ∧ Rd w T k A n (flat ii L) ∧ L.length = n ∧ n ≤ c ∧ c ≤ maxLen ∧ (∀ r ∈ L, r.length = k ∧ ∀ z ∈ r, I64 z) := by
  rcases open_slice ht h with ⟨hcs, _⟩ | ⟨a, len, cap, m, n', D, Pl, hcs, _, hl, hm, hmm, _, hi⟩
  · exact ⟨none, 0, 0, [], by simpa using hcs, Rd.none_, rfl, Nat.le_refl _, by simp [maxLen], by simp⟩
  · have hrow : ∀ i, i < len → ∃ r : List Int, r.length = k ∧ (∀ z ∈ r, I64 z) ∧ ∀ j, j < k → ∃ z, r[j]? = some z ∧ w.cell? (a.add (i * k + j)) = some (.int .i64 z) := by
      intro i hil
      obtain ⟨cs', hc, ht'⟩ := hi i (by rw [hmm]; split <;> omega)
      obtain ⟨r, h1, h2, h3⟩ := trod_arr_ints he he' hce hC ht'
      rw [hC] at hc
      obtain ⟨_, hcl, hat⟩ := World.cells?_some hc
      refine ⟨r, h2, fun z hz => i64_of_wf (h3 z hz), fun j hj => ⟨r[j]'(by omega), List.getElem?_eq_getElem (by omega), ?_⟩⟩
      have hcj : cs'[j]? = some (.int .i64 (r[j]'(by omega))) := by
        subst h1
        simp [List.getElem?_eq_getElem (show j < r.length by omega)]
      rw [← Go.Deep.add_add, hat j hj, hcj]
    have hspot : 0 < len → a.spot = none := by
      intro h0
      obtain ⟨r, _, _, hr⟩ := hrow 0 h0
      obtain ⟨z, _, hc⟩ := hr 0 hpos
      have : (a.add (0 * k + 0)) = a := by simp [Addr.add]
      rw [this] at hc
      obtain ⟨b, o, sp⟩ := a
      exact World.cell?_spot hc
    obtain ⟨b, o, sp⟩ := a
    obtain ⟨L, h1, h2, h3⟩ := rd_of_key (w := w) (A := some ⟨b, o, sp⟩) (n := len) hpos (by
      intro i hil
      obtain ⟨r, h1, h2, hr⟩ := hrow i hil
      have hs := hspot (by omega)
      dsimp only at hs
      subst hs
      refine ⟨r, h1, h2, b, o, rfl, fun j u hu => ?_⟩
      have hj : j < k := by rw [← h1]; have := (List.getElem?_eq_some_iff.1 hu).1; simpa [ii] using this
      obtain ⟨z, hz, hc⟩ := hr j hj
      have hadd : (⟨b, o, none⟩ : Addr).add (i * k + j) = ⟨b, o + (i * k + j), none⟩ := by
        unfold Addr.add
        split
        · rename_i h0; rw [h0, Nat.add_zero]
        · rfl
      rw [hadd, ← Nat.add_assoc] at hc
      have : (ii r)[j]? = some (.int .i64 z) := by simp [ii, hz]
      rw [this] at hu
      rw [hc, Option.some.inj hu])
    exact ⟨_, len, cap, L, by simpa using hcs, h1, h2, hl, hm, h3⟩
end
end Go.Proofs.YtefjejlpbfbpcaaDoor
