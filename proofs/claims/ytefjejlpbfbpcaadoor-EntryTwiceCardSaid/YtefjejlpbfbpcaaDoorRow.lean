/- Rows of a call's own that are written over in place. -/
import Derived.Test.YtefjejlpbfbpcaaDoorRows
import Derived.Test.YtefjejlpbfbpcaaDoorBase
import Derived.Deep.RegionLaw
import Derived.Lib.SliceRun
import Derived.Laws.OwnMore
namespace Go.Proofs.YtefjejlpbfbpcaaDoor
open Go.RowKit
set_option linter.unusedVariables false
set_option linter.unusedSimpArgs false
set_option maxRecDepth 100000
/-- A list with others laid over it from o on. -/
def lays (xs : List Value) (o : Nat) (vs : List Value) : List Value := match vs with
  | [] => xs
  | v :: vs => lays (xs.set o v) (o + 1) vs
theorem lays_length (vs : List Value) : ∀ (xs : List Value) (o : Nat), (lays xs o vs).length = xs.length := by
  induction vs with
  | nil => intro xs o; rfl
  | cons v vs ih => intro xs o; rw [lays, ih, List.length_set]
theorem lays_take (vs : List Value) : ∀ (xs : List Value) (o k : Nat), k ≤ o → (lays xs o vs).take k = xs.take k := by
  induction vs with
  | nil => intro xs o k _; rfl
  | cons v vs ih =>
    intro xs o k hk
    rw [lays, ih _ _ _ (by omega), List.take_set_of_le hk]
theorem lays_eq (vs : List Value) : ∀ (xs : List Value) (o : Nat), o + vs.length ≤ xs.length → lays xs o vs = xs.take o ++ vs ++ xs.drop (o + vs.length) := by
  induction vs with
  | nil => intro xs o _; simp [lays]
  | cons v vs ih =>
    intro xs o h
    simp only [List.length_cons] at h
    rw [lays, ih _ _ (by rw [List.length_set]; omega), List.take_add_one, List.take_set_of_le (Nat.le_refl _), List.getElem?_set_self (by omega)]
    rw [List.drop_set_of_lt (by omega)]
    simp only [Option.toList_some, List.append_assoc, List.cons_append, List.nil_append, List.length_cons]
    rw [show o + 1 + vs.length = o + (vs.length + 1) by omega]
theorem own_setCells {w : World} {B : Nat} {e : TypeId} {size g n c : Nat} {xs : List Value} (vs : List Value) : ∀ (w : World) (xs : List Value) (o : Nat), w.ownsRow B e size (.slice (some ⟨g, 0, none⟩) n c) n xs → (w.setCells g o vs).ownsRow B e size (.slice (some ⟨g, 0, none⟩) n c) n (lays xs o vs) ∧ w.grownBy (w.setCells g o vs) (some g) := by
  induction vs with
  | nil => intro w xs o h; exact ⟨h, World.grownBy.refl _ _⟩
  | cons v vs ih =>
    intro w xs o h
    have h1 := h.stored o v
    have h2 := ih _ _ (o + 1) h1.1
    refine ⟨h2.1, ?_⟩
    exact ⟨h2.2.os.trans h1.2.os, h2.2.tape.trans h1.2.tape, h2.2.output.trans h1.2.output, Nat.le_trans h1.2.size h2.2.size, fun k hk hne => (h2.2.block k (Nat.lt_of_lt_of_le hk h1.2.size) hne).trans (h1.2.block k hk hne)⟩
/-- A row is a shorter row. -/
theorem own_take {w : World} {B : Nat} {e : TypeId} {size g n c m : Nat} {xs : List Value} (h : w.ownsRow B e size (.slice (some ⟨g, 0, none⟩) n c) n xs) (hm : m ≤ n) : w.ownsRow B e size (.slice (some ⟨g, 0, none⟩) m c) m (xs.take (m * size)) := by
  have hle := Nat.mul_le_mul_right size hm
  refine ⟨by rw [List.length_take, h.1]; omega, ?_⟩
  rcases h.2 with ⟨h', _⟩ | ⟨g', cap', cur, h', hb, hg, hnc, hcm, hcs, htake⟩
  · simp at h'
  · simp only [Value.slice.injEq, Option.some.injEq, Addr.mk.injEq, and_true, true_and] at h'
    obtain ⟨rfl, rfl⟩ := h'
    refine .inr ⟨g, c, cur, rfl, hb, hg, by omega, hcm, hcs, ?_⟩
    rw [← htake, List.take_take]
    congr 1
    omega
theorem own_isSome {w : World} {B : Nat} {e : TypeId} {size g n c : Nat} {xs : List Value} (h : w.ownsRow B e size (.slice (some ⟨g, 0, none⟩) n c) n xs) (j : Nat) (hj : j < c * size) : (w.cell? ⟨g, j, none⟩).isSome = true := by
  rcases h.2 with ⟨h', _⟩ | ⟨g', cap', cur, h', hb, hg, hnc, hcm, hcs, htake⟩
  · simp at h'
  · simp only [Value.slice.injEq, Option.some.injEq, Addr.mk.injEq, and_true, true_and] at h'
    obtain ⟨rfl, rfl⟩ := h'
    rw [cell_of_row w g j cur e (0, 0) hg]
    have : j < cur.size := by omega
    simp [this]
theorem run_clear_one {P : Program} (w : World) (t e ty : TypeId) (z : Value) (vs : List Value) (ht : P.underlying t = some (.slice e)) (hv : ∀ w, (zeroValue e).run P w = .ok z w) (hz : (Builtin.zeroCells z.cells 1).toList = vs) (h1 : ∀ v ∈ vs, v.oneCell' = true) (b o c : Nat)
    (hc : ∀ j, j < vs.length → (w.cell? ⟨b, o + j, none⟩).isSome = true) (hf : ∀ j, j < vs.length → w.frozen? ⟨b, o + j, none⟩ = false) :
    (Builtin.clear_ #[t] ty #[.slice (some ⟨b, o, none⟩) 1 c]).run P w = .ok (.tuple #[]) (w.setCells b o vs) := by
  have hst := run_storeCells_cells (P := P) b o vs 0 w (by simpa using hc) (by simpa using hf) h1
  simp only [Nat.add_zero] at hst
  simp [Builtin.clear_, run_underlying ht, hv, hz, hst]
end Go.Proofs.YtefjejlpbfbpcaaDoor
