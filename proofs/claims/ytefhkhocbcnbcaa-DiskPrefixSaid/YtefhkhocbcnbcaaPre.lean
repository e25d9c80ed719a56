/- What writes to places of their own leave: the plain part of DiskPrefix. -/
import Derived.Test.YtefhkhocbcnbcaaDkL
namespace Go.Proofs.Ytefhkhocbcnbcaa
set_option linter.unusedVariables false
set_option linter.unusedSimpArgs false
/-- A disk of a thousand noughts at which the pieces l wait. -/
structure PreD (D : Dk) (l : List (List UInt8)) : Prop where
  q : D.q = spread 0 l
  safe : D.safe = List.replicate 1000 0
  armed : D.armed = 0
  off : D.off = false
  ok : D.Ok 1000
theorem pre_new : PreD (Dk.make 1000) [] := ⟨rfl, rfl, rfl, rfl, Dk.make_ok⟩
theorem pre_write {D : Dk} {l : List (List UInt8)} {x : List UInt8} (h : PreD D l) (hx : x.length ≤ 40) (hl : l.length ≤ 19) : (D.write (50 * l.length : Nat) x).2 = 0 ∧ PreD (D.write (50 * l.length : Nat) x).1 (l ++ [x]) := by
  have h0 : D.withE (50 * l.length : Nat) x.length = 0 := (Dk.withE_iff h.ok).2 ⟨⟨by omega, by omega, by omega⟩, h.off⟩
  have hok := h.ok.write (p := (50 * l.length : Nat)) (b := x)
  unfold Dk.write at hok ⊢
  rw [if_pos h0] at hok ⊢
  have e1 : (D.put ((50 * l.length : Nat) : Int).toNat x).armed = 0 := h.armed
  refine ⟨by unfold Dk.stepE; rw [h.armed]; rfl, ?_, ?_, ?_, ?_, hok⟩
  · show ((D.put _ x).stepped).q = _
    unfold Dk.stepped
    rw [e1]
    show D.q ++ [(((50 * l.length : Nat) : Int).toNat, x)] = _
    rw [spread_snoc, h.q, Nat.zero_add, Int.toNat_natCast]
  · show ((D.put _ x).stepped).safe = _
    unfold Dk.stepped
    rw [e1]
    exact h.safe
  · show ((D.put _ x).stepped).armed = _
    unfold Dk.stepped
    rw [e1]
    rfl
  · show ((D.put _ x).stepped).off = _
    unfold Dk.stepped
    rw [e1]
    exact h.off
theorem keptP_len {l : List (List UInt8)} {keep : List Int} (h : ∀ x ∈ l, x.length ≤ 40) : (∀ x ∈ keptP l keep, x.length ≤ 40) ∧ (keptP l keep).length ≤ l.length := by
  unfold keptP
  split
  · exact ⟨h, Nat.le_refl _⟩
  · rename_i x hx
    have hlt := (List.getElem?_eq_some_iff.1 hx).1
    refine ⟨fun y hy => ?_, by simp; omega⟩
    rcases List.mem_append.1 hy with h1 | h1
    · exact h y (List.mem_of_mem_take h1)
    · obtain rfl := List.mem_singleton.1 h1
      have := h x (List.mem_of_getElem? hx)
      rw [List.length_take]
      omega
theorem pre_read {D : Dk} {l : List (List UInt8)} {keep : List Int} {i : Nat} {x : List UInt8} (h : PreD D l) (hl : l.length ≤ 20) (h40 : ∀ x ∈ l, x.length ≤ 40) (hx : l[i]? = some x) :
    ∃ bl, (D.started keep).read (50 * i : Nat) x.length = (bl, 0) ∧ bl.length = x.length ∧ ∀ j, j < x.length → bl.getD j 0 = img (keptP l keep) i j := by
  have hil := (List.getElem?_eq_some_iff.1 hx).1
  have hxl := h40 x (List.mem_of_getElem? hx)
  have hok := h.ok.started (keep := keep)
  have h0 : (D.started keep).withE (50 * i : Nat) x.length = 0 := (Dk.withE_iff hok).2 ⟨⟨by omega, by omega, by omega⟩, rfl⟩
  have hnow : (D.started keep).now = lain (List.replicate 1000 0) (spread 0 (keptP l keep)) := by
    show lain D.safe (keptQ D.q keep) = _
    rw [h.safe, h.q, keptQ_spread]
  have hlen := hok.nowlen
  obtain ⟨k1, k2⟩ := keptP_len (keep := keep) h40
  refine ⟨_, by unfold Dk.read; rw [if_pos h0], ?_, fun j hj => ?_⟩
  · simp only [Int.toNat_natCast]
    rw [List.length_take, List.length_drop, hlen]
    omega
  · simp only [Int.toNat_natCast]
    rw [List.getD_eq_getElem?_getD, List.getElem?_take, if_pos hj, List.getElem?_drop, hnow, lain_spread _ k1 (by omega) i j (by omega) (by omega)]
    rfl
end Go.Proofs.Ytefhkhocbcnbcaa
