/- A tape's Append and Reset on a disk whose power may go. -/
import Derived.Test.YtijgkejknijplaaDoorTpS
namespace Go.Proofs.YtijgkejknijplaaDoor
set_option linter.unusedVariables false
set_option linter.unusedSimpArgs false
section
variable {D : Dk} {z : Nat} {t : Tp} {b : List UInt8}
theorem Dk.Calm.wrote_len (h : D.Calm z) : D.now.length = z := by rw [h.now, h.ok.safe]
/-- What the steps of an Append leave when the power goes within them. -/
structure Cut (D' : Dk) (z : Nat) (P : List UInt8 → Prop) : Prop where
  ok : D'.Ok z
  off : D'.off = true
  q : D'.q.length ≤ 1
  st : ∀ keep, P (D'.started keep).now
theorem append_cases (h : D.Calm z) (hd : t.dead = 0) (hb : b.length ≤ 1048576) (hr : t.p + 5 + b.length ≤ t.en) (he : t.en ≤ z) :
    (∃ D', t.append D b = ({ t with p := t.p + 5 + b.length, n := t.n + 1 }, D', 0) ∧ D'.Calm z ∧ D'.now = splice D.now t.p (1 :: t.out b) ∧ (D.armed = 0 → D'.armed = 0)) ∨
    (D.armed ≠ 0 ∧ ∃ D', t.append D b = ({ t with dead := 13 }, D', 13) ∧ Cut D' z fun l => (∃ k, k ≤ (t.out b).length ∧ l = splice D.now (t.p + 1) ((t.out b).take k)) ∨ l = splice D.now t.p (1 :: t.out b)) := by
  have hol := t.out_len b
  have hfit1 : t.p + 1 + (t.out b).length ≤ z := by rw [hol]; split <;> omega
  have hfit2 : t.p + [(1 : UInt8)].length ≤ z := by simp; omega
  have heq : t.append D b = if (D.safely (t.p + 1 : Nat) (t.out b)).2 ≠ 0 then ({ t with dead := (D.safely (t.p + 1 : Nat) (t.out b)).2 }, D.safely (t.p + 1 : Nat) (t.out b)) else
      if ((D.safely (t.p + 1 : Nat) (t.out b)).1.safely t.p [1]).2 ≠ 0 then ({ t with dead := ((D.safely (t.p + 1 : Nat) (t.out b)).1.safely t.p [1]).2 }, (D.safely (t.p + 1 : Nat) (t.out b)).1.safely t.p [1]) else
      ({ t with p := t.p + 5 + b.length, n := t.n + 1 }, ((D.safely (t.p + 1 : Nat) (t.out b)).1.safely t.p [1]).1, 0) := by
    have hroom : ¬ t.room < b.length := by unfold Tp.room; rw [if_pos (by omega)]; omega
    unfold Tp.append
    rw [if_neg (by rw [hd]; decide), if_neg (by omega), if_neg hroom]
  have hlen := h.wrote_len
  have hcomm := splice_comm D.now (t.out b) t.p 1 (by omega)
  rcases h.safely hfit1 with ⟨ha, h1⟩ | ⟨ha, h1, h2⟩
  · right
    rw [h1] at heq
    rw [if_pos (by show (13 : Int) ≠ 0; decide)] at heq
    refine ⟨by omega, _, heq, ?_, rfl, Nat.le_refl _, fun keep => .inl (h.crash_started keep)⟩
    exact h.crash_ok hfit1
  · rw [h1] at heq
    rw [if_neg (by show ¬ ((0 : Int) ≠ 0); decide)] at heq
    dsimp only at heq
    rcases h2.safely hfit2 with ⟨hb1, h3⟩ | ⟨hb1, h3, h4⟩
    · right
      rw [h3] at heq
      rw [if_pos (by show (13 : Int) ≠ 0; decide)] at heq
      refine ⟨?_, _, heq, h2.crash_ok hfit2, rfl, Nat.le_refl _, fun keep => ?_⟩
      · intro h0
        have : (D.wrote (t.p + 1) (t.out b)).armed = max 0 (max 0 (D.armed - 1) - 1) := rfl
        omega
      · obtain ⟨k, hk, e⟩ := h2.crash_started (p := t.p) (b := [1]) keep
        rw [e]
        show _ ∨ splice (splice D.now (t.p + 1) (t.out b)) t.p ([1].take k) = _
        match k, hk with
        | 0, _ =>
          left
          refine ⟨(t.out b).length, Nat.le_refl _, ?_⟩
          rw [List.take_length]
          show splice (splice D.now (t.p + 1) (t.out b)) t.p [] = _
          simp [splice]
        | 1, _ => exact .inr hcomm
        | k + 2, hk => simp at hk
    · left
      rw [h3] at heq
      rw [if_neg (by show ¬ ((0 : Int) ≠ 0); decide)] at heq
      refine ⟨_, heq, h4, hcomm, fun h0 => ?_⟩
      show max 0 (max 0 (max 0 (max 0 (D.armed - 1) - 1) - 1) - 1) = 0
      omega
theorem append_full (hd : t.dead = 0) (hb : b.length ≤ 1048576) (hr : ¬ t.p + 5 + b.length ≤ t.en) : t.append D b = (t, D, 10) := by
  have hroom : t.room < b.length := by unfold Tp.room; split <;> omega
  unfold Tp.append
  rw [if_neg (by rw [hd]; decide), if_neg (by omega), if_pos hroom]
theorem append_dead_eq (hd : t.dead ≠ 0) : t.append D b = (t, D, t.dead) := by unfold Tp.append; rw [if_pos hd]
theorem reset_cases (h : D.Calm z) (hd : t.dead = 0) (hf : t.fr + 1 ≤ z) :
    (∃ D', t.reset D = ({ t with p := t.fr, n := 0 }, D', 0) ∧ D'.Calm z ∧ D'.now = splice D.now t.fr [0] ∧ (D.armed = 0 → D'.armed = 0)) ∨
    (D.armed ≠ 0 ∧ ∃ D', t.reset D = ({ t with dead := 13 }, D', 13) ∧ Cut D' z fun l => l = D.now ∨ l = splice D.now t.fr [0]) := by
  have heq : t.reset D = if (D.safely t.fr [0]).2 ≠ 0 then ({ t with dead := (D.safely t.fr [0]).2 }, D.safely t.fr [0]) else ({ t with p := t.fr, n := 0 }, (D.safely t.fr [0]).1, 0) := by
    unfold Tp.reset
    rw [if_neg (by rw [hd]; decide)]
  have hfit : t.fr + [(0 : UInt8)].length ≤ z := by simp; omega
  rcases h.safely hfit with ⟨ha, h1⟩ | ⟨ha, h1, h2⟩
  · right
    rw [h1] at heq
    rw [if_pos (by show (13 : Int) ≠ 0; decide)] at heq
    refine ⟨by omega, _, heq, h.crash_ok hfit, rfl, Nat.le_refl _, fun keep => ?_⟩
    obtain ⟨k, hk, e⟩ := h.crash_started (p := t.fr) (b := [0]) keep
    rw [e]
    match k, hk with
    | 0, _ => left; simp [splice]
    | 1, _ => exact .inr rfl
    | k + 2, hk => simp at hk
  · left
    rw [h1] at heq
    rw [if_neg (by show ¬ ((0 : Int) ≠ 0); decide)] at heq
    refine ⟨_, heq, h2, rfl, fun h0 => ?_⟩
    show max 0 (max 0 (D.armed - 1) - 1) = 0
    omega
end
end Go.Proofs.YtijgkejknijplaaDoor
