/- The walk of one deed at the disk and at the document's. -/
import Derived.Test.YtefhkhocbcnbcaaDoorR3T
import Derived.Test.YtefhkhocbcnbcaaDoorAct3
import Derived.Test.YtefhkhocbcnbcaaDoorNum
import Derived.Test.YtefhkhocbcnbcaaDoorArith
import Derived.Deep.RegionHeld3
namespace Go.Proofs.YtefhkhocbcnbcaaDoor
open Go.RowKit
set_option maxRecDepth 100000
set_option linter.unusedVariables false
set_option linter.unusedSimpArgs false
def StepPost3 (W : World) (L ok : Nat → Prop) (g : Nat) (D' : Dk) (R' : R3) (z : Nat) (e : Ending) (w' : World) : Prop := ∃ v L', e = .returned (.tuple #[v, .bool true]) ∧ DX w' L' g D' z ∧ RX w' (fun b => ¬ L' b ∧ (ok b ∨ W.heap.size ≤ b)) v R' ∧ (∀ b, L' b → L b ∨ W.heap.size ≤ b) ∧ Kept L W w'
theorem kind_is {a k : Int} (h : a % 8 = k) : (IntKind.u64.wrap a).tmod 8 = k ∧ wrap64 ((IntKind.u64.wrap a).tmod 8) = k := by
  obtain ⟨K, hK8, hKe, hK1, hK2⟩ := uint_mod a 8 8 rfl (by omega) (by omega)
  have : (K : Int) = k := by omega
  rw [hK2, hK1]
  exact ⟨this, this⟩
/-- The three boxes of the call. -/
structure Base3 (w : World) (L : Nat → Prop) (c0 c1 : Array Value) (W0 : World) : Prop where
  be : Below w.heap.size w W0
  sz : W0.heap.size = w.heap.size + 3
  x0 : Bx W0 w.heap.size c0
  x1 : Bx W0 (w.heap.size + 1) c1
  x2 : Bx W0 (w.heap.size + 2) #[.slice none 0 0, .slice none 0 0, .int .i64 0, .bool false]
  lt : ∀ b, L b → b < w.heap.size
theorem base3 (w : World) (L : Nat → Prop) (c0 c1 : Array Value) (hl : ∀ b, L b → b < w.heap.size) : Base3 w L c0 c1 (((w.alloc (.cells c0 31)).alloc (.cells c1 38)).alloc (.cells #[.slice none 0 0, .slice none 0 0, .int .i64 0, .bool false] 31)) :=
  ⟨(((Below.refl _ _).alloc (Nat.le_refl _) _).alloc (by simp) _).alloc (by simp; omega) _, by simp, ((Bx.new _ _ _ rfl).alloc _).alloc _, (Bx.new _ _ _ (by simp)).alloc _, Bx.new _ _ _ (by simp), hl⟩
/-- Ahead of the end: the disk, the document's in its box, the own result. -/
structure Mid3 (w : World) (L ok : Nat → Prop) (g z : Nat) (D' : Dk) (R' : R3) (BA : Option Addr) (bn bc : Nat) (LA : Option Addr) (ln lc : Nat) (W : World) : Prop where
  x0 : Bx W w.heap.size #[.slice BA bn bc, .slice LA ln lc, .int .i64 R'.armed, .bool R'.off]
  x2 : Bx W (w.heap.size + 2) #[.slice none 0 0, .slice none 0 0, .int .i64 0, .bool false]
  ex : ∃ L' ls, DX W L' g D' z ∧ (∀ b, L' b → L b ∨ w.heap.size + 3 ≤ b) ∧ RS W (fun b => ¬ L' b ∧ ((ok b ∧ b < w.heap.size) ∨ w.heap.size + 3 ≤ b)) R' BA bn bc LA ln lc ls
  lt : ∀ b, L b → b < w.heap.size
  kept : Kept L w W
section
variable {L ok : Nat → Prop} {g z m : Nat} {D D' : Dk} {R R' : R3} {y : Ac} {w W0 w1 w2 W W' : World} {c0 c1 : Array Value} {a0 a1 a2 a3 : Value} {BA LA : Option Addr} {bn bc ln lc : Nat} {ls : List Wq}
theorem Bx.fr {g k : Nat} {cs : Array Value} (h : Bx W g cs) (hk : cs.size = k) : Fr W g k W := by
  obtain ⟨t, h1⟩ := h.hp
  exact Fr.start h1 hk
theorem Mid3.end_ (h : Mid3 w L ok g z D' R' BA bn bc LA ln lc W) (hf : Fr W (w.heap.size + 2) 4 W') : StepPost3 w L ok g D' R' z (.returned (.tuple #[rval R' BA bn bc LA ln lc, .bool true])) W' := by
  obtain ⟨L', ls, h1, h2, h3⟩ := h.ex
  have hk : ∀ b, b < W.heap.size → b ≠ w.heap.size + 2 → W'.heap[b]? = W.heap[b]? := fun b hb hn => hf.gr.block b hb (fun e => hn (by injection e))
  refine ⟨_, L', rfl, h1.keep (fun b hb => hk b (h1.lt b hb) ?_) hf.gr.size, ⟨BA, bn, bc, LA, ln, lc, ls, rfl, (h3.keep fun b hb hlt => hk b hlt (by omega)).mono fun b hb => ⟨hb.1, by
    rcases hb.2 with h4 | h4
    · exact .inl h4.1
    · exact .inr (by omega)⟩⟩, fun b hb => ?_, ?_⟩
  · rcases h2 b hb with h4 | h4
    · have := h.lt b h4
      omega
    · omega
  · rcases h2 b hb with h4 | h4
    · exact .inl h4
    · exact .inr (by omega)
  · refine ⟨hf.gr.os.trans h.kept.os, hf.gr.tape.trans h.kept.tape, hf.gr.output.trans h.kept.output, Nat.le_trans h.kept.size hf.gr.size, fun i hi hu => ?_⟩
    have := h.kept.size
    rw [hk i (by omega) (by omega)]
    exact h.kept.block i hi hu
theorem Base3.kept (h : Base3 w L c0 c1 W0) (hk : Kept L W0 w1) : Kept L w w1 := (Kept.of_new h.be).trans hk fun b _ h => h
theorem Base3.bxs (h : Base3 w L c0 c1 W0) (hk : Kept L W0 w1) : Bx w1 w.heap.size c0 ∧ Bx w1 (w.heap.size + 1) c1 ∧ Bx w1 (w.heap.size + 2) #[.slice none 0 0, .slice none 0 0, .int .i64 0, .bool false] :=
  ⟨hk.bx h.x0 fun hl => by have := h.lt _ hl; omega, hk.bx h.x1 fun hl => by have := h.lt _ hl; omega, hk.bx h.x2 fun hl => by have := h.lt _ hl; omega⟩
theorem Aft.bx (ha : Aft W0 L g D' z w1) (h : Base3 w L c0 c1 W0) : Bx w1 w.heap.size c0 := by
  obtain ⟨L', h1, h2, h3⟩ := ha
  exact (h.bxs h3).1
theorem Base3.rows (h : Base3 w L c0 c1 W0) (hk : Kept L W0 w1) (ho : ∀ b, ok b → ¬ L b) (hx : RS w ok R BA bn bc LA ln lc ls) : RS w1 (fun b => ok b ∧ b < w.heap.size) R BA bn bc LA ln lc ls := hx.lt.keep fun b hb hlt => (h.kept hk).block b hlt (ho b hb.1)
theorem Base3.rd {size n : Nat} {A : Option Addr} {xs : List Value} (h : Base3 w L c0 c1 W0) (hk : Kept L W0 w1) (ho : ∀ b, ok b → ¬ L b) (hx : Rd w ok size A n xs) (hs : 0 < size) : Rd w1 (fun b => ok b ∧ b < w.heap.size) size A n xs := (hx.lt hs).keep fun b hb hlt => (h.kept hk).block b hlt (ho b hb.1)
/-- Behind both calls. -/
theorem Base3.mid (h : Base3 w L #[a0, a1, a2, a3] c1 W0) (ho : ∀ b, ok b → ¬ L b) (ha : Aft W0 L g D' z w1) (hx : RS w2 (fun b => (ok b ∧ b < w.heap.size) ∨ w1.heap.size ≤ b) R' BA bn bc LA ln lc ls) (hb : Below w1.heap.size w1 w2) :
    Mid3 w L ok g z D' R' BA bn bc LA ln lc ((((w2.setCell ⟨w.heap.size, 0, none⟩ (.slice BA bn bc)).setCell ⟨w.heap.size, 1, none⟩ (.slice LA ln lc)).setCell ⟨w.heap.size, 2, none⟩ (.int .i64 R'.armed)).setCell ⟨w.heap.size, 3, none⟩ (.bool R'.off)) := by
  obtain ⟨L', h1, h2, h3⟩ := ha
  obtain ⟨x0, x1, x2⟩ := h.bxs h3
  have hs3 := h3.size
  have hs := h.sz
  have hs2 := hb.size
  have hkb : ∀ b, b ≠ w.heap.size → ((((w2.setCell ⟨w.heap.size, 0, none⟩ (.slice BA bn bc)).setCell ⟨w.heap.size, 1, none⟩ (.slice LA ln lc)).setCell ⟨w.heap.size, 2, none⟩ (.int .i64 R'.armed)).setCell ⟨w.heap.size, 3, none⟩ (.bool R'.off)).heap[b]? = w2.heap[b]? := fun b hn => by
    rw [Below.heap_setCell _ _ _ b (fun e => hn e), Below.heap_setCell _ _ _ b (fun e => hn e), Below.heap_setCell _ _ _ b (fun e => hn e), Below.heap_setCell _ _ _ b (fun e => hn e)]
  have hsz : w2.heap.size = ((((w2.setCell ⟨w.heap.size, 0, none⟩ (.slice BA bn bc)).setCell ⟨w.heap.size, 1, none⟩ (.slice LA ln lc)).setCell ⟨w.heap.size, 2, none⟩ (.int .i64 R'.armed)).setCell ⟨w.heap.size, 3, none⟩ (.bool R'.off)).heap.size := by simp [World.setCell]
  have hL : ∀ b, L' b → L b ∨ w.heap.size + 3 ≤ b := fun b hb => by
    rcases h2 b hb with h4 | h4
    · exact .inl h4
    · exact .inr (by omega)
  refine ⟨((((x0.below hb).set 0 _).set 1 _).set 2 _).set 3 _, (x2.below hb).keep (hkb _ (by omega)), ⟨L', ls, (h1.below hb).keep (fun b hb => hkb b ?_) (Nat.le_of_eq hsz), hL, (hx.mono fun b hb => ?_).keep fun b hb hlt => hkb b (by omega)⟩, h.lt, ?_⟩
  · rcases hL b hb with h4 | h4
    · have := h.lt b h4
      omega
    · omega
  · have h4 := h1.lt b
    have h5 := h2 b
    have h6 := h.lt b
    refine ⟨fun hl => ?_, by
      rcases hb with hb | hb
      · exact .inl hb
      · exact .inr (by omega)⟩
    have h7 := h4 hl
    have h8 := h5 hl
    rcases hb with hb | hb
    · rcases h8 with h8 | h8
      · exact ho b hb.1 h8
      · omega
    · omega
  · refine ⟨hb.os.trans (h.kept h3).os, hb.tape.trans (h.kept h3).tape, hb.output.trans (h.kept h3).output, by rw [← hsz]; omega, fun i hi hu => ?_⟩
    rw [hkb i (by omega), hb.block i (by omega)]
    exact (h.kept h3).block i hi hu
theorem Base3.mid0 (h : Base3 w L #[.slice BA bn bc, .slice LA ln lc, .int .i64 R.armed, .bool R.off] c1 W0) (hd : DX w L g D z) (ho : ∀ b, ok b → ¬ L b) (hx : RS w ok R BA bn bc LA ln lc ls) (hb : Below W0.heap.size W0 W) : Mid3 w L ok g z D R BA bn bc LA ln lc W :=
  ⟨h.x0.below hb, h.x2.below hb, ⟨L, ls, (hd.below h.be).below hb, fun b hb => .inl hb, (((hx.lt.below h.be).below hb).mono fun b hb => ⟨ho b hb.1, .inl hb⟩)⟩, h.lt, (Kept.of_new h.be).trans (V := L) (Kept.of_new hb) fun b _ h => h⟩
theorem Mid3.err (h : Mid3 w L ok g z D' R' BA bn bc LA ln lc W) (hg : ErrT w) (h0 : ¬ L 0) : ErrT W := by
  have h1 := hg.lt
  have := h.kept.block 0 h1 h0
  unfold ErrT at hg ⊢
  rw [World.cell?_of_block (w := w)]
  · exact hg
  · exact this
end
end Go.Proofs.YtefhkhocbcnbcaaDoor
