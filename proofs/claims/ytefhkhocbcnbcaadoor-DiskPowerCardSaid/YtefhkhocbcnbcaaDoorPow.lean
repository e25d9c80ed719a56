/- When the power goes: the plain part of DiskPower. -/
import Derived.Test.YtefhkhocbcnbcaaDoorDkL
namespace Go.Proofs.YtefhkhocbcnbcaaDoor
set_option linter.unusedVariables false
set_option linter.unusedSimpArgs false
/-- A disk of nine bytes that is armed at n, behind i steps. -/
structure PowD (n i : Nat) (D : Dk) : Prop where
  ok : D.Ok 9
  st : (i ≤ n ∧ D.off = false ∧ D.armed = (n : Int) + 1 - i) ∨ (n < i ∧ D.off = true)
  q : D.q.length ≤ i
/-- The error of the step i. -/
def powE (n i : Nat) : Int := if i < n then 0 else 13
theorem pow_start {n : Nat} (hn : n ≤ 20) : ((Dk.make 9).arm n).2 = 0 ∧ PowD n 0 ((Dk.make 9).arm n).1 := by
  have hok := (Dk.make_ok (z := 9)).arm (n := (n : Int)) (by omega)
  unfold Dk.arm at hok ⊢
  rw [if_neg (by omega)] at hok ⊢
  refine ⟨rfl, hok, .inl ⟨Nat.zero_le _, rfl, ?_⟩, Nat.le_refl _⟩
  dsimp only
  rw [if_pos (by omega)]
  omega
theorem pow_step {n i : Nat} {D : Dk} (h : PowD n i D) (hoff : D.off = false) (hok : D.stepped.Ok 9) (hq : D.q.length ≤ i + 1) : D.stepE = powE n i ∧ PowD n (i + 1) D.stepped ∧ D.stepped.off = decide (n ≤ i) := by
  rcases h.st with ⟨h1, h2, h3⟩ | ⟨h1, h2⟩
  · unfold Dk.stepE powE
    by_cases hin : i = n
    · subst hin
      have ha : D.armed = 1 := by omega
      have es : D.stepped = { D with off := true, armed := 0 } := by unfold Dk.stepped; rw [if_pos ha]
      rw [es] at hok ⊢
      rw [if_pos ha, if_neg (by omega)]
      exact ⟨rfl, ⟨hok, .inr ⟨by omega, rfl⟩, hq⟩, by simp⟩
    · have ha : D.armed ≠ 1 := by omega
      have es : D.stepped = { D with armed := max 0 (D.armed - 1) } := by unfold Dk.stepped; rw [if_neg ha]
      rw [es] at hok ⊢
      rw [if_neg ha, if_pos (by omega)]
      refine ⟨rfl, ⟨hok, .inl ⟨by omega, h2, ?_⟩, hq⟩, ?_⟩
      · show max 0 (D.armed - 1) = _
        omega
      · show D.off = _
        rw [h2]
        simp
        omega
  · rw [h2] at hoff
    cases hoff
theorem pow_down {n i : Nat} {D : Dk} (h : PowD n i D) (hoff : D.off = true) : n < i := by
  rcases h.st with ⟨h1, h2, h3⟩ | ⟨h1, h2⟩
  · rw [h2] at hoff; cases hoff
  · exact h1
theorem pow_write {n i : Nat} {D : Dk} (h : PowD n i D) : (D.write 0 [120]).2 = powE n i ∧ PowD n (i + 1) (D.write 0 [120]).1 ∧ (D.write 0 [120]).1.off = decide (n ≤ i) := by
  have hok := h.ok.write (p := 0) (b := [120])
  cases hoff : D.off with
  | false =>
    have h0 : D.withE 0 ([120] : List UInt8).length = 0 := (Dk.withE_iff h.ok).2 ⟨⟨by omega, by simp, by simp⟩, hoff⟩
    unfold Dk.write at hok ⊢
    rw [if_pos h0] at hok ⊢
    have hp : PowD n i (D.put (0 : Int).toNat [120]) ∨ True := .inr trivial
    have hq : (D.put (0 : Int).toNat [120]).q.length ≤ i + 1 := by have := h.q; simp [Dk.put]; omega
    have hst := h.st
    -- the step sees the words of the power alone
    rcases h.st with ⟨h1, h2, h3⟩ | ⟨h1, h2⟩
    · by_cases hin : i = n
      · subst hin
        have ha : D.armed = 1 := by omega
        have es : (D.put (0 : Int).toNat [120]).stepped = { D.put (0 : Int).toNat [120] with off := true, armed := 0 } := by unfold Dk.stepped; rw [if_pos (show (D.put (0 : Int).toNat [120]).armed = 1 from ha)]
        dsimp only at hok ⊢
        rw [es] at hok ⊢
        refine ⟨by unfold Dk.stepE powE; rw [if_pos ha, if_neg (by omega)], ⟨hok, .inr ⟨by omega, rfl⟩, hq⟩, by simp⟩
      · have ha : D.armed ≠ 1 := by omega
        have es : (D.put (0 : Int).toNat [120]).stepped = { D.put (0 : Int).toNat [120] with armed := max 0 (D.armed - 1) } := by unfold Dk.stepped; rw [if_neg (show ¬ (D.put (0 : Int).toNat [120]).armed = 1 from ha)]; rfl
        dsimp only at hok ⊢
        rw [es] at hok ⊢
        refine ⟨by unfold Dk.stepE powE; rw [if_neg ha, if_pos (by omega)], ⟨hok, .inl ⟨by omega, h2, ?_⟩, hq⟩, ?_⟩
        · show max 0 (D.armed - 1) = _
          omega
        · show D.off = _
          rw [h2]
          simp
          omega
    · rw [h2] at hoff; cases hoff
  | true =>
    have hn := pow_down h hoff
    have h0 : D.withE 0 ([120] : List UInt8).length = 13 := by
      unfold Dk.withE
      rw [h.ok.safe, if_neg (by simp), if_pos hoff]
    unfold Dk.write at hok ⊢
    rw [if_neg (by rw [h0]; decide)] at hok ⊢
    rw [h0]
    refine ⟨by unfold powE; rw [if_neg (by omega)], ⟨hok, .inr ⟨by omega, hoff⟩, by have := h.q; dsimp only; omega⟩, ?_⟩
    show D.off = _
    rw [hoff]
    simp
    omega
theorem pow_sync {n i : Nat} {D : Dk} (h : PowD n i D) : D.sync.2 = powE n i ∧ PowD n (i + 1) D.sync.1 ∧ D.sync.1.off = decide (n ≤ i) := by
  have hok := h.ok.sync
  cases hoff : D.off with
  | false =>
    have h0 : D.withE 0 0 = 0 := (Dk.withE_iff h.ok).2 ⟨⟨by omega, by omega, by omega⟩, hoff⟩
    obtain ⟨e1, e2, e3⟩ := pow_step h hoff h.ok.stepped (by have := h.q; omega)
    unfold Dk.sync at hok ⊢
    rw [if_pos h0] at hok ⊢
    unfold Dk.stepE at e1
    split
    · rename_i ha
      rw [if_pos ha] at e1
      exact ⟨e1, e2, e3⟩
    · rename_i ha
      rw [if_neg ha] at e1 hok
      refine ⟨e1, ⟨hok, e2.st, Nat.zero_le _⟩, e3⟩
  | true =>
    have hn := pow_down h hoff
    have h0 : D.withE 0 0 = 13 := by
      unfold Dk.withE
      rw [h.ok.safe, if_neg (by omega), if_pos hoff]
    unfold Dk.sync at hok ⊢
    rw [if_neg (by rw [h0]; decide)] at hok ⊢
    rw [h0]
    refine ⟨by unfold powE; rw [if_neg (by omega)], ⟨hok, .inr ⟨by omega, hoff⟩, by have := h.q; dsimp only; omega⟩, ?_⟩
    show D.off = _
    rw [hoff]
    simp
    omega
/-- Behind the power's coming back all is well. -/
theorem pow_end {n i : Nat} {D : Dk} (h : PowD n i D) : (D.started []).off = false ∧ (D.started []).q = [] ∧ ((D.started []).write 0 []).2 = 0 ∧ ((D.started []).write 0 []).1.sync.2 = 0 ∧ ((D.started []).write 0 []).1.q.length ≤ 1 := by
  have hok := h.ok.started (keep := [])
  have h0 : (D.started []).withE 0 ([] : List UInt8).length = 0 := (Dk.withE_iff hok).2 ⟨⟨by omega, by simp, by simp⟩, rfl⟩
  have es : ((D.started []).put (0 : Int).toNat []).stepped = (D.started []).put (0 : Int).toNat [] := rfl
  have ew : (D.started []).write 0 [] = ((D.started []).put (0 : Int).toNat [], 0) := by
    unfold Dk.write
    rw [if_pos h0, es]
    rfl
  have hok2 := hok.put (p := 0) (b := []) (by simp)
  rw [ew]
  refine ⟨rfl, rfl, rfl, ?_, by simp [Dk.put, Dk.started]⟩
  have h1 : ((D.started []).put (0 : Int).toNat []).withE 0 0 = 0 := (Dk.withE_iff hok2).2 ⟨⟨by omega, by omega, by omega⟩, rfl⟩
  show ((D.started []).put (0 : Int).toNat []).sync.2 = 0
  unfold Dk.sync
  rw [if_pos h1, if_neg (by show ¬ (0 : Int) = 1; decide)]
end Go.Proofs.YtefhkhocbcnbcaaDoor
