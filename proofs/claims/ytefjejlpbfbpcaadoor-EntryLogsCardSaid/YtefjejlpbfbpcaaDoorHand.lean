/- Hand steps of a drawn region; small words. -/
import Derived.Test.YtefjejlpbfbpcaaDoorGive
namespace Go.Proofs.YtefjejlpbfbpcaaDoor
open Go.RowKit
set_option maxRecDepth 100000
set_option linter.unusedVariables false
set_option linter.unusedSimpArgs false
section
variable {P : Program} {ops : Array Oper} {Q : Exit → Act → World → Prop} {md : Region.Mode}
theorem hand_take {i d : Nat} {oi : Oper} {v : Value} {fuel : Nat} {listed : Array Bool} {a : Act} {w : World} (hi : ops[i]? = some oi)
    (hs : Region.noSelect ops = true) (hf : Region.free md ops listed i = true) (hr : (Region.ready md ops listed).contains i = true)
    (hQ : ∀ c a w, Q (.panic c) (a.put oi.dst v) w → Q (.panic c) a w) (hd : oi.dst = some d) (hw : Region.wanted oi (yielded ops a.tmps) = true) (hy : ∀ w, (execOp a.eval oi).run P w = .ok (.value v) w)
    (h : wpAny P md ops Q fuel (listed.setIfInBounds i true) (a.put (some d) v) w) : wpAny P md ops Q (fuel + 1) listed a w :=
  wpAny_take hi hs hf hr hQ (Or.inl ⟨hw, hy⟩) (by rw [hd]; exact h)
theorem hand_skip {i d : Nat} {oi : Oper} {fuel : Nat} {listed : Array Bool} {a : Act} {w : World} (hi : ops[i]? = some oi)
    (hs : Region.noSelect ops = true) (hf : Region.free md ops listed i = true) (hr : (Region.ready md ops listed).contains i = true)
    (hQ : ∀ c a w, Q (.panic c) (a.put oi.dst undef) w → Q (.panic c) a w) (hd : oi.dst = some d) (hw : Region.wanted oi (yielded ops a.tmps) = false)
    (h : wpAny P md ops Q fuel (listed.setIfInBounds i true) (a.put (some d) undef) w) : wpAny P md ops Q (fuel + 1) listed a w :=
  wpAny_take hi hs hf hr hQ (Or.inr ⟨hw, rfl⟩) (by rw [hd]; exact h)
end
theorem below_on {w5 W w6 : World} (h : Below w5.heap.size w5 W) (h2 : Below W.heap.size W w6) : Below w5.heap.size w5 w6 := h.trans (h2.mono h.size)
theorem wel_mem {W : World} {N : Nat} {L L2 : List Er} (hw : Wel L) (hs : ∀ x ∈ L, x.n ≤ N) (hm : ∀ y ∈ L2, en y ∈ L.map en) (hd : Dat W L2) : Wel L2 ∧ ∀ y ∈ L2, y.n ≤ N := by
  have key : ∀ y ∈ L2, (W64 y ∧ y.n = y.d.length) ∧ y.n ≤ N := by
    intro y hy
    obtain ⟨x, hx, he⟩ := List.mem_map.1 (hm y hy)
    have hx' := (hw x hx).1
    have e1 : x.a = y.a := congrArg En.a he
    have e2 : x.b = y.b := congrArg En.b he
    have e3 : x.c = y.c := congrArg En.c he
    have e4 : x.d = y.d := congrArg En.d he
    unfold W64 at hx'
    rw [e1, e2, e3] at hx'
    have h5 := ((hd y hy).1.blen).symm
    refine ⟨⟨hx', h5⟩, ?_⟩
    rw [h5, ← e4, ← (hw x hx).2]
    exact hs x hx
  exact ⟨fun y hy => (key y hy).1, fun y hy => (key y hy).2⟩
end Go.Proofs.YtefjejlpbfbpcaaDoor
