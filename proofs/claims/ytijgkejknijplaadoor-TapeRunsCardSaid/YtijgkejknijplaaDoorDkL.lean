/- Plain laws of disks: no program in sight. -/
import Derived.Test.YtijgkejknijplaaDoorDk
namespace Go.Proofs.YtijgkejknijplaaDoor
set_option linter.unusedVariables false
set_option linter.unusedSimpArgs false
theorem splice_ln {α : Type} {l cs : List α} {p : Nat} (h : p + cs.length ≤ l.length) : (splice l p cs).length = l.length := by unfold splice; simp; omega
theorem splice_off {α : Type} {l cs : List α} {p i : Nat} (h : p + cs.length ≤ l.length) (hi : ¬ (p ≤ i ∧ i < p + cs.length)) : (splice l p cs)[i]? = l[i]? := by
  unfold splice
  by_cases h1 : i < p
  · rw [List.getElem?_append_left (by simp; omega), List.getElem?_take]
    simp [h1]
  · rw [← List.append_assoc, List.getElem?_append_right (by simp; omega), List.getElem?_drop]
    congr 1
    simp
    omega
theorem splice_in {α : Type} {l cs : List α} {p k : Nat} (h : p + cs.length ≤ l.length) (hk : k < cs.length) : (splice l p cs)[p + k]? = cs[k]? := by
  unfold splice
  have hp : (l.take p).length = p := by simp; omega
  rw [List.getElem?_append_right (by omega), hp, List.getElem?_append_left (by omega)]
  congr 1
  omega
theorem splice_read {α : Type} {l cs : List α} {p : Nat} (h : p + cs.length ≤ l.length) : ((splice l p cs).drop p).take cs.length = cs := by
  apply List.ext_getElem?
  intro k
  rw [List.getElem?_take, List.getElem?_drop]
  split
  · rename_i hk; exact splice_in h hk
  · rw [List.getElem?_eq_none (by omega)]
/-- Writes that lie within n bytes. -/
def Fit (n : Nat) (q : List (Nat × List UInt8)) : Prop := ∀ x ∈ q, x.1 + x.2.length ≤ n
theorem lain_nil {l : List UInt8} : lain l [] = l := rfl
theorem lain_app {l : List UInt8} {a b : List (Nat × List UInt8)} : lain l (a ++ b) = lain (lain l a) b := by unfold lain; rw [List.foldl_append]
theorem lain_one {l : List UInt8} {p : Nat} {b : List UInt8} {q : List (Nat × List UInt8)} : lain l (q ++ [(p, b)]) = splice (lain l q) p b := by rw [lain_app]; rfl
theorem lain_len {q : List (Nat × List UInt8)} : ∀ {l : List UInt8}, Fit l.length q → (lain l q).length = l.length := by
  induction q with
  | nil => intro l _; rfl
  | cons x q ih =>
    intro l h
    have h1 := splice_ln (l := l) (cs := x.2) (p := x.1) (h x (by simp))
    show (lain (splice l x.1 x.2) q).length = _
    rw [ih (by rw [h1]; exact fun y hy => h y (by simp [hy])), h1]
theorem lain_off {i : Nat} {q : List (Nat × List UInt8)} : ∀ {l : List UInt8}, Fit l.length q → (∀ x ∈ q, ¬ (x.1 ≤ i ∧ i < x.1 + x.2.length)) → (lain l q)[i]? = l[i]? := by
  induction q with
  | nil => intro l _ _; rfl
  | cons x q ih =>
    intro l h h2
    have h0 := h x (by simp)
    have h1 := splice_ln (l := l) (cs := x.2) (p := x.1) h0
    show (lain (splice l x.1 x.2) q)[i]? = _
    rw [ih (by rw [h1]; exact fun y hy => h y (by simp [hy])) (fun y hy => h2 y (by simp [hy])), splice_off h0 (h2 x (by simp))]
/-- A remainder that is told. -/
def restL (keep : List Int) (i by_ : Nat) : Nat := match keep[i]? with
  | none => 0
  | some z => (z % (by_ : Int)).toNat
theorem restL_lt {keep : List Int} {i m : Nat} : restL keep i (m + 1) ≤ m := by
  unfold restL
  split
  · omega
  · rename_i z _
    have h1 := Int.emod_nonneg z (b := ((m + 1 : Nat) : Int)) (by omega)
    have h2 := Int.emod_lt_of_pos z (b := ((m + 1 : Nat) : Int)) (by omega)
    omega
/-- The writes that are kept when the power is back. -/
def keptQ (q : List (Nat × List UInt8)) (keep : List Int) : List (Nat × List UInt8) :=
  match q[restL keep 0 (q.length + 1)]? with
  | none => q
  | some x => q.take (restL keep 0 (q.length + 1)) ++ [(x.1, x.2.take (restL keep 1 (x.2.length + 1)))]
theorem keptQ_fit {n : Nat} {q : List (Nat × List UInt8)} {keep : List Int} (h : Fit n q) : Fit n (keptQ q keep) := by
  intro y hy
  unfold keptQ at hy
  split at hy
  · exact h y hy
  · rename_i x hx
    rcases List.mem_append.1 hy with h1 | h1
    · exact h y (List.mem_of_mem_take h1)
    · obtain rfl := List.mem_singleton.1 h1
      have := h x (List.mem_of_getElem? hx)
      simp only [List.length_take]
      omega
/-- Each write that is kept is a begin of one that was made. -/
theorem keptQ_of {q : List (Nat × List UInt8)} {keep : List Int} {y : Nat × List UInt8} (hy : y ∈ keptQ q keep) : ∃ x ∈ q, y.1 = x.1 ∧ y.2.length ≤ x.2.length := by
  unfold keptQ at hy
  split at hy
  · exact ⟨y, hy, rfl, Nat.le_refl _⟩
  · rename_i x hx
    rcases List.mem_append.1 hy with h1 | h1
    · exact ⟨y, List.mem_of_mem_take h1, rfl, Nat.le_refl _⟩
    · obtain rfl := List.mem_singleton.1 h1
      exact ⟨x, List.mem_of_getElem? hx, rfl, by simp only [List.length_take]; omega⟩
structure Dk.Ok (D : Dk) (z : Nat) : Prop where
  safe : D.safe.length = z
  fit : Fit z D.q
  now : D.now = lain D.safe D.q
  lo : 0 ≤ D.armed
  hi : D.armed ≤ 9223372036854775807
def Dk.write (D : Dk) (p : Int) (b : List UInt8) : Dk × Int := if D.withE p b.length = 0 then ((D.put p.toNat b).stepped, D.stepE) else (D, D.withE p b.length)
def Dk.sync (D : Dk) : Dk × Int := if D.withE 0 0 = 0 then (if D.armed = 1 then (D.stepped, 13) else (D.stepped.settled, 0)) else (D, D.withE 0 0)
def Dk.arm (D : Dk) (n : Int) : Dk × Int := if n < 0 then (D, 1) else ({ D with armed := if n < 4611686018427387904 then n + 1 else n }, 0)
def Dk.started (D : Dk) (keep : List Int) : Dk := { safe := lain D.safe (keptQ D.q keep), now := lain D.safe (keptQ D.q keep), q := [], armed := 0, off := false }
def Dk.read (D : Dk) (p n : Int) : List UInt8 × Int := if D.withE p n = 0 then ((D.now.drop p.toNat).take n.toNat, 0) else ([], D.withE p n)
def Dk.make (z : Nat) : Dk := { safe := List.replicate z 0, now := List.replicate z 0, q := [], armed := 0, off := false }
section
variable {D : Dk} {z : Nat}
theorem Dk.make_ok : (Dk.make z).Ok z := ⟨by simp [Dk.make], by simp [Fit, Dk.make], rfl, by simp [Dk.make], by simp [Dk.make]⟩
theorem Dk.Ok.nowlen (h : D.Ok z) : D.now.length = z := by rw [h.now, lain_len (by rw [h.safe]; exact h.fit), h.safe]
theorem Dk.withE_iff (h : D.Ok z) {p n : Int} : D.withE p n = 0 ↔ (0 ≤ p ∧ 0 ≤ n ∧ p + n ≤ z) ∧ D.off = false := by
  unfold Dk.withE
  rw [h.safe]
  split
  · constructor
    · intro h'; cases h'
    · intro h'; omega
  · split
    · rename_i h1 h2; simp [h2]
    · rename_i h1 h2; simp [h2]; omega
theorem Dk.withE_or {p n : Int} : D.withE p n = 0 ∨ D.withE p n = 1 ∨ D.withE p n = 13 := by
  unfold Dk.withE
  split
  · simp
  · split <;> simp
theorem Dk.Ok.stepped (h : D.Ok z) : D.stepped.Ok z := by
  unfold Dk.stepped
  have := h.lo; have := h.hi
  split
  · exact ⟨h.safe, h.fit, h.now, by show (0 : Int) ≤ 0; omega, by show (0 : Int) ≤ _; omega⟩
  · exact ⟨h.safe, h.fit, h.now, by show (0 : Int) ≤ max _ _; omega, by show max _ _ ≤ _; omega⟩
theorem Dk.Ok.put (h : D.Ok z) {p : Nat} {b : List UInt8} (hp : p + b.length ≤ z) : (D.put p b).Ok z := by
  refine ⟨h.safe, fun x hx => ?_, ?_, h.lo, h.hi⟩
  · rcases List.mem_append.1 hx with h1 | h1
    · exact h.fit x h1
    · obtain rfl := List.mem_singleton.1 h1
      exact hp
  · show splice D.now p b = lain D.safe (D.q ++ [(p, b)])
    rw [lain_one, h.now]
theorem Dk.Ok.settled (h : D.Ok z) : D.settled.Ok z :=
  ⟨(by show (lain D.safe D.q).length = z; rw [lain_len (by rw [h.safe]; exact h.fit), h.safe]), (fun x hx => by cases hx), h.now, h.lo, h.hi⟩
theorem Dk.Ok.write (h : D.Ok z) {p : Int} {b : List UInt8} : (D.write p b).1.Ok z := by
  unfold Dk.write
  split
  · rename_i h0
    have := (Dk.withE_iff h).1 h0
    exact (h.put (by omega)).stepped
  · exact h
theorem Dk.Ok.sync (h : D.Ok z) : D.sync.1.Ok z := by
  unfold Dk.sync
  split
  · split
    · exact h.stepped
    · exact h.stepped.settled
  · exact h
theorem Dk.Ok.arm (h : D.Ok z) {n : Int} (hn : n ≤ 9223372036854775807) : (D.arm n).1.Ok z := by
  unfold Dk.arm
  split
  · exact h
  · refine ⟨h.safe, h.fit, h.now, ?_, ?_⟩
    · show (0 : Int) ≤ if n < 4611686018427387904 then n + 1 else n
      split <;> omega
    · show (if n < 4611686018427387904 then n + 1 else n) ≤ 9223372036854775807
      split <;> omega
theorem Dk.Ok.started (h : D.Ok z) {keep : List Int} : (D.started keep).Ok z :=
  ⟨(by show (lain D.safe (keptQ D.q keep)).length = z; rw [lain_len (by rw [h.safe]; exact keptQ_fit h.fit), h.safe]), (fun x hx => by cases hx), rfl, (by show (0 : Int) ≤ 0; omega), (by show (0 : Int) ≤ _; omega)⟩
theorem Dk.Ok.read_len (h : D.Ok z) {p n : Int} (h0 : D.withE p n = 0) : ((D.now.drop p.toNat).take n.toNat).length = n.toNat := by
  have := (Dk.withE_iff h).1 h0
  have := h.nowlen
  simp
  omega
end
/-- Pieces at places of their own, 50 apart. -/
def spread (k : Nat) : List (List UInt8) → List (Nat × List UInt8)
  | [] => []
  | x :: l => (50 * k, x) :: spread (k + 1) l
theorem spread_len : ∀ {l : List (List UInt8)} {k : Nat}, (spread k l).length = l.length
  | [], _ => rfl
  | x :: l, k => by show (spread (k + 1) l).length + 1 = _; rw [spread_len]; rfl
theorem spread_snoc : ∀ {l : List (List UInt8)} {k : Nat} {x : List UInt8}, spread k (l ++ [x]) = spread k l ++ [(50 * (k + l.length), x)]
  | [], k, x => rfl
  | y :: l, k, x => by
    show (50 * k, y) :: spread (k + 1) (l ++ [x]) = (50 * k, y) :: (spread (k + 1) l ++ _)
    rw [spread_snoc]
    simp only [List.length_cons]
    rw [show k + 1 + l.length = k + (l.length + 1) by omega]
theorem spread_get : ∀ {l : List (List UInt8)} {k i : Nat} {x : List UInt8}, l[i]? = some x → (spread k l)[i]? = some (50 * (k + i), x)
  | [], _, _, _, h => by simp at h
  | y :: l, k, 0, x, h => by
    obtain rfl := Option.some.inj h
    rfl
  | y :: l, k, i + 1, x, h => by
    show (spread (k + 1) l)[i]? = _
    rw [spread_get (by simpa using h), show k + 1 + i = k + (i + 1) by omega]
theorem spread_take : ∀ {l : List (List UInt8)} {k i : Nat}, (spread k l).take i = spread k (l.take i)
  | [], k, i => by simp [spread]
  | y :: l, k, 0 => rfl
  | y :: l, k, i + 1 => by
    show (50 * k, y) :: (spread (k + 1) l).take i = (50 * k, y) :: spread (k + 1) (l.take i)
    rw [spread_take]
/-- The byte j of the piece i, or a nought. -/
def img (l : List (List UInt8)) (i j : Nat) : UInt8 := ((l[i]?.bind (·[j]?)).getD 0)
theorem fit_spread {l : List (List UInt8)} {z : Nat} (h : ∀ x ∈ l, x.length ≤ 40) (hz : 50 * l.length ≤ z) : Fit z (spread 0 l) := by
  suffices H : ∀ (l : List (List UInt8)) (k : Nat), (∀ x ∈ l, x.length ≤ 40) → ∀ y ∈ spread k l, y.1 + y.2.length ≤ 50 * (k + l.length) by
    intro y hy
    have := H l 0 h y hy
    omega
  intro l
  induction l with
  | nil => intro k _ y hy; cases hy
  | cons x l ih =>
    intro k h y hy
    rcases List.mem_cons.1 hy with rfl | hy
    · have := h x (by simp)
      simp only [List.length_cons]
      omega
    · have := ih (k + 1) (fun x hx => h x (by simp [hx])) y hy
      simp only [List.length_cons]
      omega
theorem lain_spread {z : Nat} (l : List (List UInt8)) (h : ∀ x ∈ l, x.length ≤ 40) (hz : 50 * l.length ≤ z) (i j : Nat) (hj : j < 50) (hi : 50 * i + j < z) : (lain (List.replicate z 0) (spread 0 l))[50 * i + j]? = some (img l i j) := by
  obtain ⟨n, hn⟩ : ∃ n, n = l.length := ⟨_, rfl⟩
  induction n generalizing l with
  | zero =>
    obtain rfl := List.eq_nil_of_length_eq_zero hn.symm
    simp [spread, lain, img, hi]
  | succ n ih =>
    have hne : l ≠ [] := fun e => by rw [e] at hn; cases hn
    obtain ⟨l', x, rfl⟩ : ∃ l' x, l = l' ++ [x] := ⟨l.dropLast, l.getLast hne, (List.dropLast_concat_getLast hne).symm⟩
    simp only [List.length_append, List.length_singleton] at hz hn
    have hl' : n = l'.length := by omega
    have h' : ∀ x ∈ l', x.length ≤ 40 := fun y hy => h y (by simp [hy])
    have hx := h x (by simp)
    rw [spread_snoc, lain_one]
    have hlen : (lain (List.replicate z (0 : UInt8)) (spread 0 l')).length = z := by
      rw [lain_len (by rw [List.length_replicate]; exact fit_spread h' (by omega)), List.length_replicate]
    by_cases hc : i = l'.length ∧ j < x.length
    · obtain ⟨rfl, hjx⟩ := hc
      rw [Nat.zero_add, splice_in (by rw [hlen]; omega) hjx]
      unfold img
      rw [List.getElem?_append_right (Nat.le_refl _)]
      simp [List.getElem?_eq_getElem hjx]
    · rw [splice_off (by rw [hlen]; omega) (by omega), ih l' h' (by omega) hl']
      congr 1
      unfold img
      by_cases hil : i < l'.length
      · rw [List.getElem?_append_left hil]
      · by_cases hie : i = l'.length
        · subst hie
          rw [List.getElem?_append_right (Nat.le_refl _), List.getElem?_eq_none (Nat.le_refl _)]
          simp [List.getElem?_eq_none (show x.length ≤ j by omega)]
        · rw [List.getElem?_eq_none (by omega), List.getElem?_eq_none (by simp; omega)]
/-- What is kept of pieces: so many, the next one in part. -/
def keptP (l : List (List UInt8)) (keep : List Int) : List (List UInt8) :=
  match l[restL keep 0 (l.length + 1)]? with
  | none => l
  | some x => l.take (restL keep 0 (l.length + 1)) ++ [x.take (restL keep 1 (x.length + 1))]
theorem keptQ_spread {l : List (List UInt8)} {keep : List Int} : keptQ (spread 0 l) keep = spread 0 (keptP l keep) := by
  unfold keptQ keptP
  rw [spread_len]
  have hr := restL_lt (keep := keep) (i := 0) (m := l.length)
  cases hx : l[restL keep 0 (l.length + 1)]? with
  | none =>
    have := List.getElem?_eq_none_iff.1 hx
    rw [List.getElem?_eq_none (by rw [spread_len]; omega)]
  | some x =>
    have hlt := (List.getElem?_eq_some_iff.1 hx).1
    rw [spread_get hx, spread_take, spread_snoc]
    simp only [Nat.zero_add, List.length_take]
    rw [show min (restL keep 0 (l.length + 1)) l.length = restL keep 0 (l.length + 1) by omega]
/-- The piece i as it is read behind it: so many bytes as they were, then noughts; all behind the piece M are noughts, all ahead of it whole. -/
theorem keptP_img {l : List (List UInt8)} {keep : List Int} : ∃ M, ∀ i x, l[i]? = some x → ∃ r, r ≤ x.length ∧ (∀ j, j < r → img (keptP l keep) i j = x.getD j 0) ∧ (∀ j, r ≤ j → img (keptP l keep) i j = 0) ∧ (i < M → r = x.length) ∧ (M < i → r = 0) := by
  have hr := restL_lt (keep := keep) (i := 0) (m := l.length)
  refine ⟨restL keep 0 (l.length + 1), fun i x hx => ?_⟩
  have hlt := (List.getElem?_eq_some_iff.1 hx).1
  unfold keptP
  generalize restL keep 0 (l.length + 1) = M at *
  have whole : img l i = fun j => x.getD j 0 := by
    funext j
    unfold img
    rw [hx]
    simp [List.getD_eq_getElem?_getD]
  cases hy : l[M]? with
  | none =>
    have := List.getElem?_eq_none_iff.1 hy
    refine ⟨x.length, Nat.le_refl _, fun j _ => by rw [whole], fun j hj => ?_, fun _ => rfl, fun h => by omega⟩
    rw [whole]
    simp [List.getD_eq_getElem?_getD, List.getElem?_eq_none hj]
  | some y =>
    dsimp only
    have hM := (List.getElem?_eq_some_iff.1 hy).1
    have htl : (l.take M).length = M := by simp; omega
    by_cases h1 : i < M
    · have hh : img (l.take M ++ [y.take (restL keep 1 (y.length + 1))]) i = fun j => x.getD j 0 := by
        rw [← whole]
        funext j
        unfold img
        rw [List.getElem?_append_left (by omega), List.getElem?_take]
        simp [h1]
      refine ⟨x.length, Nat.le_refl _, fun j _ => by rw [hh], fun j hj => ?_, fun _ => rfl, fun h => by omega⟩
      rw [hh]
      simp [List.getD_eq_getElem?_getD, List.getElem?_eq_none hj]
    · by_cases h2 : i = M
      · subst h2
        obtain rfl : x = y := Option.some.inj (hx.symm.trans hy)
        clear hy
        have hrr := restL_lt (keep := keep) (i := 1) (m := x.length)
        generalize restL keep 1 (x.length + 1) = r at *
        have hh : ∀ j, img (l.take i ++ [x.take r]) i j = ((x.take r)[j]?).getD 0 := by
          intro j
          unfold img
          rw [List.getElem?_append_right (by omega), htl]
          simp
        refine ⟨r, hrr, fun j hj => ?_, fun j hj => ?_, fun h => by omega, fun h => by omega⟩
        · rw [hh, List.getElem?_take]
          simp [hj, List.getD_eq_getElem?_getD]
        · rw [hh, List.getElem?_take]
          simp [Nat.not_lt.2 hj]
      · refine ⟨0, Nat.zero_le _, fun j hj => by omega, fun j _ => ?_, fun h => by omega, fun _ => rfl⟩
        unfold img
        rw [List.getElem?_eq_none (by simp; omega)]
        rfl
end Go.Proofs.YtijgkejknijplaaDoor
