/- What a tape's steps leave, in plain words. -/
import Derived.Test.YtijgkejknijplaaDoorTp
namespace Go.Proofs.YtijgkejknijplaaDoor
set_option linter.unusedVariables false
set_option linter.unusedSimpArgs false
theorem getD_get {l : List UInt8} {i : Nat} : l.getD i 0 = (l[i]?).getD 0 := by rw [List.getD_eq_getElem?_getD]
/-- Two rows of bytes that agree up to a place. -/
theorem mkAt_eq {l l' : List UInt8} {p : Nat} (h : l'[p]? = l[p]?) : mkAt l' p = mkAt l p := by unfold mkAt; rw [getD_get, getD_get, h]
theorem lnAt_eq {l l' : List UInt8} {p : Nat} (h : ∀ i, p < i → i < p + 5 → l'[i]? = l[i]?) : lnAt l' p = lnAt l p := by
  unfold lnAt
  simp only [getD_get]
  rw [h (p + 1) (by omega) (by omega), h (p + 2) (by omega) (by omega), h (p + 3) (by omega) (by omega), h (p + 4) (by omega) (by omega)]
theorem cutAt_eq {l l' : List UInt8} {p n : Nat} (h : ∀ i, p ≤ i → i < p + n → l'[i]? = l[i]?) : cutAt l' p n = cutAt l p n := by
  unfold cutAt
  apply List.ext_getElem?
  intro i
  rw [List.getElem?_take, List.getElem?_take]
  by_cases hi : i < n
  · rw [if_pos hi, if_pos hi, List.getElem?_drop, List.getElem?_drop, h (p + i) (by omega) (by omega)]
  · rw [if_neg hi, if_neg hi]
theorem recsF_le (l : List UInt8) (e : Nat) : ∀ (f p : Nat), p ≤ (recsF f l p e).2.1 ∧ (p ≤ e → (recsF f l p e).2.1 ≤ e) ∧ p + (recsF f l p e).1.length * 5 ≤ (recsF f l p e).2.1 := by
  intro f
  induction f with
  | zero => intro p; simp [recsF]
  | succ f ih =>
    intro p
    rw [recsF]
    split
    · split
      · simp
      · split
        · simp
        · rename_i h1 h2 h3
          have h4 : ¬ e < p + 5 + lnAt l p := fun h => h3 (.inr h)
          obtain ⟨k1, k2, k3⟩ := ih (p + 5 + lnAt l p)
          refine ⟨?_, fun _ => k2 (by omega), ?_⟩
          · show p ≤ (recsF f l (p + 5 + lnAt l p) e).2.1
            omega
          · show p + ((recsF f l (p + 5 + lnAt l p) e).1.length + 1) * 5 ≤ (recsF f l (p + 5 + lnAt l p) e).2.1
            omega
    · simp
theorem recs_le (l : List UInt8) (p e : Nat) : p ≤ (recs l p e).2.1 ∧ (p ≤ e → (recs l p e).2.1 ≤ e) ∧ p + (recs l p e).1.length * 5 ≤ (recs l p e).2.1 := recsF_le l e (e + 1) p
/-- The records do not hang on what lies behind them, but for a mark 0, or no place. -/
theorem recsF_same {l l' : List UInt8} {e : Nat} : ∀ (f p : Nat), (recsF f l p e).2.2 = false → e + 1 ≤ p + f → (∀ i, p ≤ i → i < (recsF f l p e).2.1 → l'[i]? = l[i]?) → (mkAt l' (recsF f l p e).2.1 = 0 ∨ e < (recsF f l p e).2.1 + 5) → recsF f l' p e = recsF f l p e := by
  intro f
  induction f with
  | zero => intro p _ _ _ _; rfl
  | succ f ih =>
    intro p h hf ha hm
    by_cases h1 : p + 5 ≤ e
    · by_cases h2 : mkAt l p = 0
      · rw [recsF, if_pos h1, if_pos h2] at hm
        rw [recsF, recsF, if_pos h1, if_pos h1, if_pos h2, if_pos (by
          rcases hm with h3 | h3
          · exact h3
          · dsimp only at h3; omega)]
      · by_cases h3 : mkAt l p ≠ 1 ∨ e < p + 5 + lnAt l p
        · rw [recsF, if_pos h1, if_neg h2, if_pos h3] at h
          cases h
        · have hE : recsF (f + 1) l p e = (cutAt l (p + 5) (lnAt l p) :: (recsF f l (p + 5 + lnAt l p) e).1, (recsF f l (p + 5 + lnAt l p) e).2) := by rw [recsF, if_pos h1, if_neg h2, if_neg h3]
          rw [hE] at h ha hm
          dsimp only at h ha hm
          have hle := (recsF_le l e f (p + 5 + lnAt l p)).1
          have e1 : mkAt l' p = mkAt l p := mkAt_eq (ha p (by omega) (by omega))
          have e2 : lnAt l' p = lnAt l p := lnAt_eq fun i h4 h5 => ha i (by omega) (by omega)
          have e3 : cutAt l' (p + 5) (lnAt l p) = cutAt l (p + 5) (lnAt l p) := cutAt_eq fun i h4 h5 => ha i (by omega) (by omega)
          rw [hE, recsF, if_pos h1, e1, e2, if_neg h2, if_neg h3, e3, ih (p + 5 + lnAt l p) h (by omega) (fun i h4 h5 => ha i (by omega) h5) hm]
    · rw [recsF, recsF, if_neg h1, if_neg h1]
theorem recs_same {l l' : List UInt8} {p e : Nat} (h : (recs l p e).2.2 = false) (ha : ∀ i, p ≤ i → i < (recs l p e).2.1 → l'[i]? = l[i]?) (hm : mkAt l' (recs l p e).2.1 = 0 ∨ e < (recs l p e).2.1 + 5) : recs l' p e = recs l p e := recsF_same (e + 1) p h (by omega) ha hm
/-- One record more. -/
theorem recsF_snoc {l l' : List UInt8} {e n : Nat} : ∀ (f p : Nat), (recsF f l p e).2.2 = false → e + 1 ≤ p + f → (∀ i, p ≤ i → i < (recsF f l p e).2.1 → l'[i]? = l[i]?) → mkAt l' (recsF f l p e).2.1 = 1 → lnAt l' (recsF f l p e).2.1 = n → (recsF f l p e).2.1 + 5 + n ≤ e → (mkAt l' ((recsF f l p e).2.1 + 5 + n) = 0 ∨ e < (recsF f l p e).2.1 + 5 + n + 5) →
    (mkAt l (recsF f l p e).2.1 = 0) → recsF f l' p e = ((recsF f l p e).1 ++ [cutAt l' ((recsF f l p e).2.1 + 5) n], (recsF f l p e).2.1 + 5 + n, false) := by
  intro f
  induction f with
  | zero =>
    intro p _ hf _ _ _ h6 _ _
    simp only [recsF] at h6
    omega
  | succ f ih =>
    intro p h hf ha hm hl hn hk h0
    by_cases h1 : p + 5 ≤ e
    · by_cases h2 : mkAt l p = 0
      · have hE : recsF (f + 1) l p e = ([], p, false) := by rw [recsF, if_pos h1, if_pos h2]
        rw [hE] at ha hm hl hn hk ⊢
        dsimp only at ha hm hl hn hk ⊢
        have hm0 : mkAt l' p ≠ 0 := by rw [hm]; decide
        have hnx : recsF f l' (p + 5 + n) e = ([], p + 5 + n, false) := by
          cases f with
          | zero => rfl
          | succ f =>
            rcases hk with h3 | h3
            · rw [recsF]
              by_cases h4 : p + 5 + n + 5 ≤ e
              · rw [if_pos h4, if_pos h3]
              · rw [if_neg h4]
            · rw [recsF, if_neg (by omega)]
        rw [recsF, if_pos h1, if_neg hm0, hl, if_neg (by rw [hm]; simp; omega), hnx]
        rfl
      · by_cases h3 : mkAt l p ≠ 1 ∨ e < p + 5 + lnAt l p
        · rw [recsF, if_pos h1, if_neg h2, if_pos h3] at h
          cases h
        · have hE : recsF (f + 1) l p e = (cutAt l (p + 5) (lnAt l p) :: (recsF f l (p + 5 + lnAt l p) e).1, (recsF f l (p + 5 + lnAt l p) e).2) := by rw [recsF, if_pos h1, if_neg h2, if_neg h3]
          rw [hE] at h ha hm hl hn hk h0 ⊢
          dsimp only at h ha hm hl hn hk h0 ⊢
          have hle := (recsF_le l e f (p + 5 + lnAt l p)).1
          have e1 : mkAt l' p = mkAt l p := mkAt_eq (ha p (by omega) (by omega))
          have e2 : lnAt l' p = lnAt l p := lnAt_eq fun i h4 h5 => ha i (by omega) (by omega)
          have e3 : cutAt l' (p + 5) (lnAt l p) = cutAt l (p + 5) (lnAt l p) := cutAt_eq fun i h4 h5 => ha i (by omega) (by omega)
          rw [recsF, if_pos h1, e1, e2, if_neg h2, if_neg h3, e3, ih (p + 5 + lnAt l p) h (by omega) (fun i h4 h5 => ha i (by omega) h5) hm hl hn hk h0]
          rfl
    · have hE : recsF (f + 1) l p e = ([], p, false) := by rw [recsF, if_neg h1]
      rw [hE] at hn
      dsimp only at hn
      omega
theorem recs_snoc {l l' : List UInt8} {p e n : Nat} (h : (recs l p e).2.2 = false) (ha : ∀ i, p ≤ i → i < (recs l p e).2.1 → l'[i]? = l[i]?) (hm : mkAt l' (recs l p e).2.1 = 1) (hl : lnAt l' (recs l p e).2.1 = n) (hn : (recs l p e).2.1 + 5 + n ≤ e) (hk : mkAt l' ((recs l p e).2.1 + 5 + n) = 0 ∨ e < (recs l p e).2.1 + 5 + n + 5)
    (h0 : mkAt l (recs l p e).2.1 = 0) : recs l' p e = ((recs l p e).1 ++ [cutAt l' ((recs l p e).2.1 + 5) n], (recs l p e).2.1 + 5 + n, false) := recsF_snoc (e + 1) p h (by omega) ha hm hl hn hk h0
/-- Where the records end well, a mark 0 lies there, or there is no place. -/
theorem recsF_last {l : List UInt8} {e : Nat} : ∀ (f p : Nat), (recsF f l p e).2.2 = false → e + 1 ≤ p + f → mkAt l (recsF f l p e).2.1 = 0 ∨ e < (recsF f l p e).2.1 + 5 := by
  intro f
  induction f with
  | zero => intro p _ hf; simp only [recsF]; omega
  | succ f ih =>
    intro p h hf
    by_cases h1 : p + 5 ≤ e
    · by_cases h2 : mkAt l p = 0
      · rw [recsF, if_pos h1, if_pos h2]; exact .inl h2
      · by_cases h3 : mkAt l p ≠ 1 ∨ e < p + 5 + lnAt l p
        · rw [recsF, if_pos h1, if_neg h2, if_pos h3] at h
          cases h
        · have hE : recsF (f + 1) l p e = (cutAt l (p + 5) (lnAt l p) :: (recsF f l (p + 5 + lnAt l p) e).1, (recsF f l (p + 5 + lnAt l p) e).2) := by rw [recsF, if_pos h1, if_neg h2, if_neg h3]
          rw [hE] at h ⊢
          exact ih _ h (by omega)
    · rw [recsF, if_neg h1]
      right
      show e < p + 5
      omega
theorem recs_last {l : List UInt8} {p e : Nat} (h : (recs l p e).2.2 = false) : mkAt l (recs l p e).2.1 = 0 ∨ e < (recs l p e).2.1 + 5 := recsF_last (e + 1) p h (by omega)
/-- The records of a part. -/
theorem recsF_cut {l : List UInt8} {a s : Nat} (ha : a + s ≤ l.length) : ∀ (f p : Nat), recsF f (cutAt l a s) p s = ((recsF f l (a + p) (a + s)).1, (recsF f l (a + p) (a + s)).2.1 - a, (recsF f l (a + p) (a + s)).2.2) := by
  intro f
  induction f with
  | zero => intro p; simp [recsF]
  | succ f ih =>
    intro p
    have hg : ∀ i, i < s → (cutAt l a s)[i]? = l[a + i]? := fun i hi => by unfold cutAt; rw [List.getElem?_take, if_pos hi, List.getElem?_drop]
    by_cases h1 : p + 5 ≤ s
    · have e1 : mkAt (cutAt l a s) p = mkAt l (a + p) := by unfold mkAt; rw [getD_get, getD_get, hg p (by omega)]
      have e2 : lnAt (cutAt l a s) p = lnAt l (a + p) := by
        unfold lnAt
        simp only [getD_get]
        rw [hg (p + 1) (by omega), hg (p + 2) (by omega), hg (p + 3) (by omega), hg (p + 4) (by omega)]
        rfl
      have h1' : a + p + 5 ≤ a + s := by omega
      by_cases h2 : mkAt l (a + p) = 0
      · rw [recsF, recsF, if_pos h1, if_pos h1', e1, if_pos h2, if_pos h2]
        simp
      · by_cases h3 : mkAt l (a + p) ≠ 1 ∨ s < p + 5 + lnAt l (a + p)
        · have h3' : mkAt l (a + p) ≠ 1 ∨ a + s < a + p + 5 + lnAt l (a + p) := h3.imp id (by omega)
          rw [recsF, recsF, if_pos h1, if_pos h1', e1, e2, if_neg h2, if_neg h2, if_pos h3, if_pos h3']
          simp
        · have h3' : ¬ (mkAt l (a + p) ≠ 1 ∨ a + s < a + p + 5 + lnAt l (a + p)) := fun h => h3 (h.imp id (by omega))
          have hns : ¬ s < p + 5 + lnAt l (a + p) := fun h => h3 (.inr h)
          have e3 : cutAt (cutAt l a s) (p + 5) (lnAt l (a + p)) = cutAt l (a + p + 5) (lnAt l (a + p)) := by
            unfold cutAt
            rw [List.drop_take, List.take_take, List.drop_drop]
            congr 1
            omega
          have e4 : a + (p + 5 + lnAt l (a + p)) = a + p + 5 + lnAt l (a + p) := by omega
          rw [recsF, recsF, if_pos h1, if_pos h1', e1, e2, if_neg h2, if_neg h2, if_neg h3, if_neg h3', e3, ih (p + 5 + lnAt l (a + p)), e4]
    · have h1' : ¬ a + p + 5 ≤ a + s := by omega
      rw [recsF, recsF, if_neg h1, if_neg h1']
      simp
theorem recs_cut {l : List UInt8} {a s : Nat} (ha : a + s ≤ l.length) : recs (cutAt l a s) 0 s = ((recs l a (a + s)).1, (recs l a (a + s)).2.1 - a, (recs l a (a + s)).2.2) := by
  rw [recs_eq l a (a + s) (s + 1) (by omega) (by omega)]
  exact recsF_cut ha (s + 1) 0
/-- The length's four bytes. -/
theorem lnAt_enc {l : List UInt8} {p n : Nat} (hn : n ≤ 1048576) (h : ∀ i, i < 4 → l[p + 1 + i]? = (enc4 n)[i]?) : lnAt l p = n := by
  have h0 := h 0 (by omega)
  have h1 := h 1 (by omega)
  have h2 := h 2 (by omega)
  have h3 := h 3 (by omega)
  unfold lnAt
  simp only [getD_get]
  have e1 : p + 1 = p + 1 + 0 := by omega
  have e2 : p + 2 = p + 1 + 1 := by omega
  have e3 : p + 3 = p + 1 + 2 := by omega
  have e4 : p + 4 = p + 1 + 3 := by omega
  rw [e1, e2, e3, e4, h0, h1, h2, h3]
  simp only [enc4, List.getElem?_cons_zero, List.getElem?_cons_succ, Option.getD_some, UInt8.toNat_ofNat']
  omega
end Go.Proofs.YtijgkejknijplaaDoor
