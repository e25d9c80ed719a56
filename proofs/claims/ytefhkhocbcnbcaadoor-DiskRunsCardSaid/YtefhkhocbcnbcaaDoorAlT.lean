/- A disk beside the document's: one deed, whose result goes to a block of its own ahead of the store. -/
import Derived.Test.YtefhkhocbcnbcaaDoorAl
namespace Go.Proofs.YtefhkhocbcnbcaaDoor
open Go.RowKit
set_option maxRecDepth 100000
set_option linter.unusedVariables false
set_option linter.unusedSimpArgs false
def Alx (w : World) (B g : Nat) (D : Dk) (R : R3) (m z : Nat) (W : World) : Prop := (∃ L ok, Al1 w B g D R m z L ok W) ∧ B < W.heap.size
def AlT (w : World) (B g : Nat) (D' : Dk) (R' : R3) (m z : Nat) (W Wc : World) (BA : Option Addr) (bn bc : Nat) (LA : Option Addr) (ln lc : Nat) (w' : World) : Prop :=
  (∃ c0 c1 c2 c3, Bx w' B #[c0, c1, c2, c3]) ∧ (Wc.heap.size ≤ w'.heap.size) ∧ (∀ b, W.heap.size ≤ b → b < Wc.heap.size → w'.heap[b]? = Wc.heap[b]?) ∧ ∀ W1, Kept (fun b => W.heap.size ≤ b ∧ b < Wc.heap.size) w' W1 → Alx w B g D' R' m z ((((W1.setCell ⟨B, 0, none⟩ (.slice BA bn bc)).setCell ⟨B, 1, none⟩ (.slice LA ln lc)).setCell ⟨B, 2, none⟩ (.int .i64 R'.armed)).setCell ⟨B, 3, none⟩ (.bool R'.off))
def StoreA (w : World) (B g : Nat) (D' : Dk) (R' : R3) (m z : Nat) (t : Nat) (W : World) : Prop :=
  ∃ BA bn bc LA ln lc, t ≠ B ∧ Bx W t #[.slice BA bn bc, .slice LA ln lc, .int .i64 R'.armed, .bool R'.off] ∧ (∃ c0 c1 c2 c3, Bx W B #[c0, c1, c2, c3]) ∧ Alx w B g D' R' m z ((((W.setCell ⟨B, 0, none⟩ (.slice BA bn bc)).setCell ⟨B, 1, none⟩ (.slice LA ln lc)).setCell ⟨B, 2, none⟩ (.int .i64 R'.armed)).setCell ⟨B, 3, none⟩ (.bool R'.off))
section
variable {w W W' : World} {B g : Nat} {D D' : Dk} {R R' : R3} {m z : Nat} {BA LA : Option Addr} {bn bc ln lc : Nat} {y : Ac}
theorem Alx.be (h : Alx w B g D R m z W) : Below w.heap.size w W := by
  obtain ⟨⟨L, ok, h1⟩, _⟩ := h
  exact h1.be
theorem Alx.below (h : Alx w B g D R m z W) (hb : Below W.heap.size W W') : Alx w B g D R m z W' := by
  obtain ⟨⟨L, ok, h1⟩, h2⟩ := h
  exact ⟨⟨L, ok, h1.below hb⟩, Nat.lt_of_lt_of_le h2 hb.size⟩
theorem Alx.step (h : Alx w B g D R m z W) (hy : AcOk w y) (hm : m ≤ 1000) (hz : z ≤ 4194304) (hg : ErrT w) :
    ∃ BA bn bc LA ln lc, Bx W B #[.slice BA bn bc, .slice LA ln lc, .int .i64 R.armed, .bool R.off] ∧ ∀ Wc, Below W.heap.size W Wc → Calls Tryd.prog 8 #[.pointer (some ⟨g, 0, none⟩), .agg #[.slice BA bn bc, .slice LA ln lc, .int .i64 R.armed, .bool R.off], .agg #[.int .i64 y.a, .int .i64 y.b, .int .i64 y.c, .slice y.A y.n y.m, .slice y.K y.kn y.km]] Wc.drew
      (fun e w' => ∃ BA2 bn2 bc2 LA2 ln2 lc2, e = .returned (.tuple #[.agg #[.slice BA2 bn2 bc2, .slice LA2 ln2 lc2, .int .i64 (R.act y).1.armed, .bool (R.act y).1.off], .bool true]) ∧ AlT w B g (D.act y).1 (R.act y).1 (m + 1) z W Wc BA2 bn2 bc2 LA2 ln2 lc2 w') := by
  obtain ⟨⟨L, ok, h1⟩, hB⟩ := h
  obtain ⟨BA, bn, bc, LA, ln, lc, ls, x1, r1⟩ := h1.rx
  refine ⟨BA, bn, bc, LA, ln, lc, x1, fun Wc hbc => ?_⟩
  have hws := h1.be.size
  have hcs := hbc.size
  have hLW := h1.dx.lt
  have h1' : Al1 w B g D R m z L (fun b => ok b ∧ b < W.heap.size) W := ⟨h1.dx, ⟨_, _, _, _, _, _, _, x1, r1.lt⟩, fun b hb => h1.ol b hb.1, fun b hb => h1.ob b hb.1, h1.lb, h1.l0, h1.b0, fun b hb => ⟨h1.o0 b hb, by omega⟩, h1.rel, h1.q, h1.be⟩
  obtain ⟨BA9, bn9, bc9, LA9, ln9, lc9, x9, hc⟩ := (h1'.below hbc).step hy hm hz hg
  have x1' := x1.below hbc
  have e0 := (x1'.c 0).symm.trans (x9.c 0)
  have e1 := (x1'.c 1).symm.trans (x9.c 1)
  simp only [Option.some.injEq, List.getElem?_toArray, List.getElem?_cons_zero, List.getElem?_cons_succ, Value.slice.injEq] at e0 e1
  obtain ⟨rfl, rfl, rfl⟩ := e0
  obtain ⟨rfl, rfl, rfl⟩ := e1
  refine hc.mono ?_
  rintro e w' ⟨BA2, bn2, bc2, LA2, ln2, lc2, rfl, hs⟩
  obtain ⟨_, _, _, _, _, k0⟩ := hs.ex
  refine ⟨BA2, bn2, bc2, LA2, ln2, lc2, rfl, hs.cells, k0.size, fun b hb hlt => k0.block b hlt fun hl => by have := hLW b hl; omega, fun W1 hb => ?_⟩
  obtain ⟨L', ok', q1, q2, q3, q4⟩ := hs.put hb fun b hu => ⟨fun hl => by have := hLW b hl; omega, fun ho => by have := ho.2; omega, by omega, by omega, hu.2⟩
  have hsz := q4.size
  exact ⟨⟨L', ok', q1⟩, by omega⟩
theorem AlT.new {w' Wc : World} (h : AlT w B g D' R' m z W Wc BA bn bc LA ln lc w') : StoreA w B g D' R' m z w'.heap.size (w'.alloc (.cells #[.slice BA bn bc, .slice LA ln lc, .int .i64 R'.armed, .bool R'.off] 31)) := by
  obtain ⟨⟨c0, c1, c2, c3, h1⟩, h2, h3, h4⟩ := h
  have hb : Below w'.heap.size w' (w'.alloc (.cells #[.slice BA bn bc, .slice LA ln lc, .int .i64 R'.armed, .bool R'.off] 31)) := (Below.refl _ _).alloc (Nat.le_refl _) _
  exact ⟨BA, bn, bc, LA, ln, lc, fun e => by have := h1.lt; omega, Bx.new _ _ _ rfl, ⟨c0, c1, c2, c3, h1.below hb⟩, h4 _ (Kept.of_new hb)⟩
theorem AlT.old {w' Wc : World} (h : AlT w B g D' R' m z W Wc BA bn bc LA ln lc w') (hB : B < W.heap.size) {d0 d1 d2 d3 : Value} {t : TypeId} (hc : Wc = W.alloc (.cells #[d0, d1, d2, d3] t)) : StoreA w B g D' R' m z W.heap.size ((((w'.setCell ⟨W.heap.size, 0, none⟩ (.slice BA bn bc)).setCell ⟨W.heap.size, 1, none⟩ (.slice LA ln lc)).setCell ⟨W.heap.size, 2, none⟩ (.int .i64 R'.armed)).setCell ⟨W.heap.size, 3, none⟩ (.bool R'.off)) := by
  obtain ⟨⟨c0, c1, c2, c3, h1⟩, h2, h3, h4⟩ := h
  have hz : Wc.heap.size = W.heap.size + 1 := by rw [hc]; simp
  have hT : Bx w' W.heap.size #[d0, d1, d2, d3] := Bx.keep (W := Wc) (by rw [hc]; exact Bx.new _ _ _ rfl) (h3 _ (Nat.le_refl _) (by omega))
  have hk : Kept (fun b => W.heap.size ≤ b ∧ b < Wc.heap.size) w' ((((w'.setCell ⟨W.heap.size, 0, none⟩ (.slice BA bn bc)).setCell ⟨W.heap.size, 1, none⟩ (.slice LA ln lc)).setCell ⟨W.heap.size, 2, none⟩ (.int .i64 R'.armed)).setCell ⟨W.heap.size, 3, none⟩ (.bool R'.off)) := ((((Kept.refl _ w').set (p := ⟨W.heap.size, 0, none⟩) ⟨Nat.le_refl _, by show W.heap.size < _; omega⟩ _).set (p := ⟨W.heap.size, 1, none⟩) ⟨Nat.le_refl _, by show W.heap.size < _; omega⟩ _).set (p := ⟨W.heap.size, 2, none⟩) ⟨Nat.le_refl _, by show W.heap.size < _; omega⟩ _).set (p := ⟨W.heap.size, 3, none⟩) ⟨Nat.le_refl _, by show W.heap.size < _; omega⟩ _
  exact ⟨BA, bn, bc, LA, ln, lc, by omega, (((hT.set 0 _).set 1 _).set 2 _).set 3 _, ⟨c0, c1, c2, c3, hk.bx h1 fun hu => by omega⟩, h4 _ hk⟩
theorem AlT.temp {w' Wc : World} (h : AlT w B g D' R' m z W Wc BA bn bc LA ln lc w') {d0 d1 d2 d3 : Value} {t : TypeId} (hc : Wc = W.alloc (.cells #[d0, d1, d2, d3] t)) : Bx w' W.heap.size #[d0, d1, d2, d3] := by
  obtain ⟨⟨c0, c1, c2, c3, h1⟩, h2, h3, h4⟩ := h
  exact Bx.keep (W := Wc) (by rw [hc]; exact Bx.new _ _ _ rfl) (h3 _ (Nat.le_refl _) (by rw [hc]; simp))
/-- What the deeds leave agrees. -/
structure Agree (D : Dk) (R : R3) (z : Nat) : Prop where
  off : R.off = D.off
  q : R.l.length = D.q.length
theorem Alx.facts (h : Alx w B g D R m z W) (hm : m ≤ 1000) : ∃ L ok BA bn bc LA ln lc ls, DX W L g D z ∧ Bx W B #[.slice BA bn bc, .slice LA ln lc, .int .i64 R.armed, .bool R.off] ∧ RS W ok R BA bn bc LA ln lc ls ∧ Rel m D R ∧ D.q.length ≤ m := by
  obtain ⟨⟨L, ok, h1⟩, _⟩ := h
  obtain ⟨BA, bn, bc, LA, ln, lc, ls, x1, r1⟩ := h1.rx
  exact ⟨L, ok, BA, bn, bc, LA, ln, lc, ls, h1.dx, x1, r1, h1.rel, h1.q⟩
end
end Go.Proofs.YtefhkhocbcnbcaaDoor
