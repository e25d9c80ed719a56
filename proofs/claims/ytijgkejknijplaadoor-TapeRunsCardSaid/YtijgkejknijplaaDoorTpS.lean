/- A tape's steps on a disk whose power may go: in plain words. -/
import Derived.Test.YtijgkejknijplaaDoorTpL
namespace Go.Proofs.YtijgkejknijplaaDoor
set_option linter.unusedVariables false
set_option linter.unusedSimpArgs false
/-- The power is there, nothing waits. -/
structure Dk.Calm (D : Dk) (z : Nat) : Prop where
  ok : D.Ok z
  off : D.off = false
  q : D.q = []
theorem Dk.Calm.now {D : Dk} {z : Nat} (h : D.Calm z) : D.now = D.safe := by rw [h.ok.now, h.q]; rfl
def Dk.crash (D : Dk) (p : Nat) (b : List UInt8) : Dk := { safe := D.safe, now := splice D.now p b, q := [(p, b)], armed := 0, off := true }
def Dk.wrote (D : Dk) (p : Nat) (b : List UInt8) : Dk := { safe := splice D.now p b, now := splice D.now p b, q := [], armed := max 0 (max 0 (D.armed - 1) - 1), off := false }
section
variable {D : Dk} {z p : Nat} {b : List UInt8}
theorem Dk.Calm.withE (h : D.Calm z) (hp : p + b.length ≤ z) : D.withE p b.length = 0 := (Dk.withE_iff h.ok).2 ⟨by omega, h.off⟩
theorem Dk.Calm.safely (h : D.Calm z) (hp : p + b.length ≤ z) : ((D.armed = 1 ∨ D.armed = 2) ∧ D.safely p b = (D.crash p b, 13)) ∨ ((D.armed = 0 ∨ 3 ≤ D.armed) ∧ D.safely p b = (D.wrote p b, 0) ∧ (D.wrote p b).Calm z) := by
  have hw := h.withE hp
  have hlo := h.ok.lo
  unfold Dk.safely Dk.write
  rw [if_pos hw]
  have hpn : (p : Int).toNat = p := by simp
  rw [hpn]
  by_cases h1 : D.armed = 1
  · left
    refine ⟨.inl h1, ?_⟩
    have e1 : D.stepE = 13 := by unfold Dk.stepE; rw [if_pos h1]
    rw [e1, if_neg (show ¬ (13 : Int) = 0 by decide)]
    unfold Dk.stepped
    rw [if_pos (show (D.put p b).armed = 1 from h1)]
    unfold Dk.put Dk.crash
    rw [h.q]
    rfl
  · have e1 : D.stepE = 0 := by unfold Dk.stepE; rw [if_neg h1]
    have e2 : (D.put p b).stepped = { D with now := splice D.now p b, q := [(p, b)], armed := max 0 (D.armed - 1) } := by
      unfold Dk.stepped
      rw [if_neg (show ¬ (D.put p b).armed = 1 from h1)]
      unfold Dk.put
      rw [h.q]
      rfl
    rw [e1, if_pos rfl, e2]
    have hok2 : Dk.Ok { D with now := splice D.now p b, q := [(p, b)], armed := max 0 (D.armed - 1) } z := by
      rw [← e2]
      exact (h.ok.put hp).stepped
    have hw0 : Dk.withE { D with now := splice D.now p b, q := [(p, b)], armed := max 0 (D.armed - 1) } 0 0 = 0 := (Dk.withE_iff hok2).2 ⟨by omega, h.off⟩
    unfold Dk.sync
    rw [if_pos hw0]
    by_cases h2 : D.armed = 2
    · left
      refine ⟨.inr h2, ?_⟩
      have e3 : max 0 (D.armed - 1) = 1 := by omega
      rw [if_pos (show max 0 (D.armed - 1) = 1 from e3)]
      unfold Dk.stepped
      rw [if_pos (show max 0 (D.armed - 1) = 1 from e3)]
      rfl
    · right
      have e3 : ¬ max 0 (D.armed - 1) = 1 := by omega
      refine ⟨by omega, ?_, ?_⟩
      · rw [if_neg (show ¬ max 0 (D.armed - 1) = 1 from e3)]
        unfold Dk.stepped
        rw [if_neg (show ¬ max 0 (D.armed - 1) = 1 from e3)]
        unfold Dk.settled Dk.wrote
        dsimp only
        have : lain D.safe [(p, b)] = splice D.now p b := by rw [h.now]; rfl
        rw [this, h.off]
      · refine ⟨⟨?_, ?_, rfl, ?_, ?_⟩, rfl, rfl⟩
        · show (splice D.now p b).length = z
          rw [splice_ln (by rw [h.now, h.ok.safe]; exact hp), h.now, h.ok.safe]
        · intro x hx; cases hx
        · show 0 ≤ max 0 (max 0 (D.armed - 1) - 1); omega
        · show max 0 (max 0 (D.armed - 1) - 1) ≤ _
          have := h.ok.hi
          omega
theorem keptQ_one (keep : List Int) : lain D.safe (keptQ [(p, b)] keep) = D.safe ∨ ∃ k, k ≤ b.length ∧ lain D.safe (keptQ [(p, b)] keep) = splice D.safe p (b.take k) := by
  unfold keptQ
  have hr := restL_lt (keep := keep) (i := 0) (m := 1)
  rw [show [(p, b)].length + 1 = 1 + 1 from rfl]
  by_cases h0 : restL keep 0 (1 + 1) = 0
  · rw [h0]
    right
    refine ⟨restL keep 1 (b.length + 1), restL_lt, ?_⟩
    rfl
  · have h1 : restL keep 0 (1 + 1) = 1 := by omega
    rw [h1]
    right
    exact ⟨b.length, Nat.le_refl _, by rw [List.take_length]; rfl⟩
theorem Dk.started_calm (h : D.Ok z) (keep : List Int) : (D.started keep).Calm z := ⟨h.started, rfl, rfl⟩
theorem Dk.Calm.crash_started (h : D.Calm z) (keep : List Int) : ∃ k, k ≤ b.length ∧ ((D.crash p b).started keep).now = splice D.now p (b.take k) := by
  show ∃ k, k ≤ b.length ∧ lain D.safe (keptQ [(p, b)] keep) = _
  rw [h.now]
  rcases keptQ_one (D := D) (p := p) (b := b) keep with h1 | h1
  · exact ⟨0, Nat.zero_le _, by rw [h1]; simp [splice]⟩
  · exact h1
theorem Dk.Calm.crash_ok (h : D.Calm z) (hp : p + b.length ≤ z) : (D.crash p b).Ok z := by
  refine ⟨h.ok.safe, ?_, ?_, by show (0 : Int) ≤ 0; omega, by show (0 : Int) ≤ _; omega⟩
  · intro x hx
    obtain rfl := List.mem_singleton.1 hx
    exact hp
  · show splice D.now p b = lain D.safe [(p, b)]
    rw [h.now]
    rfl
end
theorem splice_comm (l out : List UInt8) (p : Nat) (x : UInt8) (h : p + 1 + out.length ≤ l.length) : splice (splice l (p + 1) out) p [x] = splice l p (x :: out) := by
  have h1 : (splice l (p + 1) out).length = l.length := splice_ln (by omega)
  apply List.ext_getElem?
  intro i
  by_cases h2 : p ≤ i ∧ i < p + 1 + out.length
  · obtain ⟨k, rfl⟩ : ∃ k, i = p + k := ⟨i - p, by omega⟩
    rw [splice_in (l := l) (cs := x :: out) (by simp; omega) (by simp; omega)]
    cases k with
    | zero => rw [splice_in (by simp; omega) (by simp)]; rfl
    | succ k =>
      rw [splice_off (by first | (simp; done) | (simp; omega)) (by first | (simp; done) | (simp; omega))]
      have : p + (k + 1) = p + 1 + k := by omega
      rw [this, splice_in (by omega) (by omega)]
      simp
  · rw [splice_off (l := l) (cs := x :: out) (by simp; omega) (by simp; omega), splice_off (by simp; omega) (by simp; omega), splice_off (by omega) (by omega)]
section
variable {l b : List UInt8} {fr p e n : Nat} {rs : List (List UInt8)}
/-- What lies behind the mark does not count. -/
theorem recs_part {d : List UInt8} (h : recs l fr e = (rs, p, false)) (hd : p + 1 + d.length ≤ l.length) : recs (splice l (p + 1) d) fr e = (rs, p, false) := by
  have h1 : (recs l fr e).2.2 = false := by rw [h]
  have h2 := recs_last h1
  have hp : (recs l fr e).2.1 = p := by rw [h]
  rw [← h]
  apply recs_same h1
  · intro i _ hi
    rw [hp] at hi
    exact splice_off (by omega) (by omega)
  · rw [hp] at h2 ⊢
    rcases h2 with h2 | h2
    · left
      rw [mkAt_eq (l := l) (splice_off (by omega) (by omega)), h2]
    · exact .inr h2
/-- The whole record. -/
theorem recs_put {t : Tp} (h : recs l t.fr t.en = (rs, t.p, false)) (hb : b.length ≤ 1048576) (hr : t.p + 5 + b.length ≤ t.en) (he : t.en ≤ l.length) : recs (splice l t.p (1 :: t.out b)) t.fr t.en = (rs ++ [b], t.p + 5 + b.length, false) := by
  have h1 : (recs l t.fr t.en).2.2 = false := by rw [h]
  have h2 := recs_last h1
  have hp : (recs l t.fr t.en).2.1 = t.p := by rw [h]
  have hl := t.out_len b
  have hfit : t.p + (1 :: t.out b).length ≤ l.length := by
    simp only [List.length_cons, hl]
    split <;> omega
  have hin : ∀ k, k < (t.out b).length → (splice l t.p (1 :: t.out b))[t.p + 1 + k]? = (t.out b)[k]? := by
    intro k hk
    have : t.p + 1 + k = t.p + (k + 1) := by omega
    rw [this, splice_in hfit (by simp; omega)]
    simp
  have h04 : ∀ i, i < 4 → (t.out b)[i]? = (enc4 b.length)[i]? := by
    intro i hi
    unfold Tp.out
    rw [List.append_assoc, List.getElem?_append_left (by simp [enc4]; omega)]
  have h4n : ∀ i, i < b.length → (t.out b)[4 + i]? = b[i]? := by
    intro i hi
    unfold Tp.out
    rw [List.append_assoc, List.getElem?_append_right (by first | (simp [enc4]; done) | (simp [enc4]; omega)), List.getElem?_append_left (by first | (simp [enc4]; done) | (simp [enc4]; omega))]
    congr 1
    simp [enc4]
  have key := recs_snoc (l := l) (l' := splice l t.p (1 :: t.out b)) (p := t.fr) (e := t.en) (n := b.length) h1 (fun i _ hi => by rw [hp] at hi; exact splice_off hfit (by omega)) ?_ ?_ (by rw [hp]; omega) ?_ ?_
  · rw [key, hp, h]
    dsimp only
    congr 2
    congr 1
    unfold cutAt
    apply List.ext_getElem?
    intro i
    rw [List.getElem?_take]
    by_cases hi : i < b.length
    · rw [if_pos hi, List.getElem?_drop]
      have : t.p + 5 + i = t.p + 1 + (4 + i) := by omega
      rw [this, hin _ (by rw [hl]; omega), h4n i hi]
    · rw [if_neg hi, List.getElem?_eq_none (by omega)]
  · rw [hp]
    unfold mkAt
    have := splice_in (l := l) (cs := 1 :: t.out b) (p := t.p) (k := 0) hfit (by simp)
    rw [getD_get]
    rw [Nat.add_zero] at this
    rw [this]
    rfl
  · rw [hp]
    exact lnAt_enc hb fun i hi => by rw [hin i (by rw [hl]; omega), h04 i hi]
  · rw [hp]
    by_cases h3 : t.p + 5 + b.length + 5 ≤ t.en
    · left
      unfold mkAt
      rw [getD_get]
      have e5 : t.p + 5 + b.length = t.p + 1 + (4 + b.length) := by omega
      rw [e5, hin _ (by rw [hl, if_pos h3]; omega)]
      unfold Tp.out
      rw [if_pos h3, List.getElem?_append_right (by simp [enc4]; omega)]
      have e6 : 4 + b.length - (enc4 b.length ++ b).length = 0 := by simp [enc4]; omega
      rw [e6]
      rfl
    · exact .inr (by omega)
  · rw [hp] at h2 ⊢
    rcases h2 with h2 | h2
    · exact h2
    · omega
/-- No record. -/
theorem recs_cleared (h : fr < l.length) : recs (splice l fr [0]) fr e = ([], fr, false) := by
  apply recs_end
  unfold mkAt
  have := splice_in (l := l) (cs := [(0 : UInt8)]) (p := fr) (k := 0) (by simp; omega) (by simp)
  rw [Nat.add_zero] at this
  rw [getD_get, this]
  rfl
theorem cut_splice {c : List UInt8} {a s q : Nat} (h1 : q + c.length ≤ s) (h2 : a + s ≤ l.length) : cutAt (splice l (a + q) c) a s = splice (cutAt l a s) q c := by
  have hlen : (cutAt l a s).length = s := by unfold cutAt; simp; omega
  apply List.ext_getElem?
  intro i
  have hg : ∀ l' : List UInt8, (cutAt l' a s)[i]? = if i < s then l'[a + i]? else none := fun l' => by unfold cutAt; rw [List.getElem?_take]; split; rw [List.getElem?_drop]; rfl
  by_cases h3 : q ≤ i ∧ i < q + c.length
  · obtain ⟨k, rfl⟩ : ∃ k, i = q + k := ⟨i - q, by omega⟩
    rw [splice_in (by omega) (by omega), hg, if_pos (by omega), show a + (q + k) = a + q + k by omega, splice_in (by omega) (by omega)]
  · rw [splice_off (by omega) h3, hg, hg]
    by_cases h4 : i < s
    · rw [if_pos h4, if_pos h4, splice_off (by omega) (by omega)]
    · rw [if_neg h4, if_neg h4]
end
end Go.Proofs.YtijgkejknijplaaDoor
