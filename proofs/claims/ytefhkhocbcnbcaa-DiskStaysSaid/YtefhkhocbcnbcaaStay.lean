/- What was synced stays: the plain part of DiskStays. -/
import Derived.Test.YtefhkhocbcnbcaaDkL
namespace Go.Proofs.Ytefhkhocbcnbcaa
set_option linter.unusedVariables false
set_option linter.unusedSimpArgs false
theorem Dk.stepped_zero {D : Dk} (h : D.armed = 0) : D.stepped = D := by
  unfold Dk.stepped
  rw [h]
  rw [if_neg (by decide)]
  have e : max (0 : Int) (0 - 1) = 0 := by decide
  rw [e, ← h]
/-- A disk of sixty bytes at which writes may wait. -/
structure QuietD (D : Dk) : Prop where
  armed : D.armed = 0
  off : D.off = false
  ok : D.Ok 60
theorem quiet_new : QuietD (Dk.make 60) := ⟨rfl, rfl, Dk.make_ok⟩
theorem quiet_write {D : Dk} (h : QuietD D) (p : Int) (b : List UInt8) : QuietD (D.write p b).1 ∧ (D.write p b).1.q.length ≤ D.q.length + 1 ∧ (D.write p b).1.safe = D.safe := by
  have hok := h.ok.write (p := p) (b := b)
  unfold Dk.write at hok ⊢
  split
  · rename_i h0
    rw [if_pos h0] at hok
    have e1 : (D.put p.toNat b).stepped = D.put p.toNat b := Dk.stepped_zero h.armed
    dsimp only at hok ⊢
    rw [e1] at hok ⊢
    exact ⟨⟨h.armed, h.off, hok⟩, by simp [Dk.put], rfl⟩
  · exact ⟨h, by dsimp only; omega, rfl⟩
theorem quiet_sync {D : Dk} (h : QuietD D) : D.sync.2 = 0 ∧ QuietD D.sync.1 ∧ D.sync.1.q = [] ∧ D.sync.1.now = D.sync.1.safe := by
  have h0 : D.withE 0 0 = 0 := (Dk.withE_iff h.ok).2 ⟨⟨by omega, by omega, by omega⟩, h.off⟩
  have hok := h.ok.sync
  unfold Dk.sync at hok ⊢
  rw [if_pos h0, if_neg (by rw [h.armed]; decide)] at hok ⊢
  rw [Dk.stepped_zero h.armed] at hok ⊢
  exact ⟨rfl, ⟨h.armed, h.off, hok⟩, rfl, h.ok.now⟩
theorem quiet_all {D : Dk} (h : QuietD D) : D.read 0 60 = (D.now, 0) := by
  have h0 : D.withE 0 60 = 0 := (Dk.withE_iff h.ok).2 ⟨⟨by omega, by omega, by omega⟩, h.off⟩
  unfold Dk.read
  rw [if_pos h0]
  have hl := h.ok.nowlen
  have : (D.now.drop (0 : Int).toNat).take (60 : Int).toNat = D.now := by
    show (D.now.drop 0).take 60 = _
    rw [List.drop_zero, List.take_of_length_le (by omega)]
  rw [this]
/-- The bytes S are safe; where ws says no nothing waits. -/
structure StayD (S : List UInt8) (D : Dk) (ws : List Bool) : Prop where
  safe : D.safe = S
  qu : QuietD D
  len : ws.length = 60
  un : ∀ i, ws[i]? = some false → ∀ y ∈ D.q, ¬ (y.1 ≤ i ∧ i < y.1 + y.2.length)
theorem stay_new {D : Dk} (h : QuietD D) (hq : D.q = []) : StayD D.safe D (List.replicate 60 false) := ⟨rfl, h, by simp, fun i _ y hy => by rw [hq] at hy; cases hy⟩
/-- As marked: from p on k more are yes. -/
def Marked (ws ws' : List Bool) (p k : Nat) : Prop := ws'.length = 60 ∧ ∀ i, ws'[i]? = if p ≤ i ∧ i < p + k then some true else ws[i]?
theorem marked_zero {ws : List Bool} {p : Nat} (h : ws.length = 60) : Marked ws ws p 0 := ⟨h, fun i => by rw [if_neg (by omega)]⟩
theorem marked_step {ws ws' : List Bool} {p k : Nat} (h : Marked ws ws' p k) (hk : p + k < 60) : Marked ws (ws'.set (p + k) true) p (k + 1) := by
  refine ⟨by simpa using h.1, fun i => ?_⟩
  rw [List.getElem?_set]
  by_cases hi : p + k = i
  · rw [if_pos hi, if_pos (by rw [h.1]; omega), if_pos (by omega)]
  · rw [if_neg hi, h.2 i]
    by_cases h2 : p ≤ i ∧ i < p + k
    · rw [if_pos h2, if_pos (by omega)]
    · rw [if_neg h2, if_neg (by omega)]
theorem stay_put {S : List UInt8} {D : Dk} {ws ws' : List Bool} {p : Nat} {b : List UInt8} (h : StayD S D ws) (hp : p + b.length ≤ 60) (hm : Marked ws ws' p b.length) : StayD S (D.put p b) ws' := by
  refine ⟨h.safe, ⟨h.qu.armed, h.qu.off, h.qu.ok.put hp⟩, hm.1, fun i hi y hy => ?_⟩
  rw [hm.2 i] at hi
  by_cases h2 : p ≤ i ∧ i < p + b.length
  · rw [if_pos h2] at hi
    cases hi
  · rw [if_neg h2] at hi
    rcases List.mem_append.1 hy with h1 | h1
    · exact h.un i hi y h1
    · obtain rfl := List.mem_singleton.1 h1
      exact h2
/-- What was written is read. -/
theorem put_read {D : Dk} {p : Nat} {b : List UInt8} (h : QuietD D) (hp : p + b.length ≤ 60) : (D.put p b).read p b.length = (b, 0) := by
  have hok := h.ok.put hp
  have h0 : (D.put p b).withE p b.length = 0 := (Dk.withE_iff hok).2 ⟨⟨by omega, by omega, by omega⟩, h.off⟩
  unfold Dk.read
  rw [if_pos h0]
  simp only [Int.toNat_natCast]
  have hl := h.ok.nowlen
  show (((splice D.now p b).drop p).take b.length, (0 : Int)) = _
  rw [splice_read (by omega)]
/-- Behind the power's coming back: where ws says no the byte is the one that was safe. -/
theorem stay_end {S : List UInt8} {D : Dk} {ws : List Bool} {keep : List Int} (h : StayD S D ws) : QuietD (D.started keep) ∧ ∀ i : Nat, ws[i]? = some false → (D.started keep).now[i]? = S[i]? := by
  refine ⟨⟨rfl, rfl, h.qu.ok.started⟩, fun i hi => ?_⟩
  show (lain D.safe (keptQ D.q keep))[i]? = _
  rw [lain_off (by rw [h.qu.ok.safe]; exact keptQ_fit h.qu.ok.fit), h.safe]
  intro y hy
  obtain ⟨x, hx, e1, e2⟩ := keptQ_of hy
  have := h.un i hi x hx
  rw [e1]
  omega
end Go.Proofs.Ytefhkhocbcnbcaa
