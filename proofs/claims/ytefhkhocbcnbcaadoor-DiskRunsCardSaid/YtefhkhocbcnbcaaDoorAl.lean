/- A disk beside the document's, deed by deed; two such pairs. -/
import Derived.Test.YtefhkhocbcnbcaaDoorStepW
import Derived.Test.YtefhkhocbcnbcaaDoorSure
namespace Go.Proofs.YtefhkhocbcnbcaaDoor
open Go.RowKit
set_option maxRecDepth 100000
set_option linter.unusedVariables false
set_option linter.unusedSimpArgs false
structure Al1 (w : World) (B g : Nat) (D : Dk) (R : R3) (m z : Nat) (L ok : Nat → Prop) (W : World) : Prop where
  dx : DX W L g D z
  rx : ∃ BA bn bc LA ln lc ls, Bx W B #[.slice BA bn bc, .slice LA ln lc, .int .i64 R.armed, .bool R.off] ∧ RS W ok R BA bn bc LA ln lc ls
  ol : ∀ b, ok b → ¬ L b
  ob : ∀ b, ok b → b ≠ B
  lb : ¬ L B
  l0 : ∀ b, L b → w.heap.size ≤ b
  b0 : w.heap.size ≤ B
  o0 : ∀ b, b < w.heap.size → ok b
  rel : Rel m D R
  q : D.q.length ≤ m
  be : Below w.heap.size w W
/-- What the deed leaves, ahead of the store. -/
structure AlS (w : World) (B g : Nat) (D' : Dk) (R' : R3) (m z : Nat) (L ok : Nat → Prop) (W : World) (BA : Option Addr) (bn bc : Nat) (LA : Option Addr) (ln lc : Nat) (w' : World) : Prop where
  ex : ∃ L' ls, DX w' L' g D' z ∧ RS w' (fun b => ¬ L' b ∧ (ok b ∨ W.heap.size ≤ b)) R' BA bn bc LA ln lc ls ∧ (∀ b, L' b → L b ∨ W.heap.size ≤ b) ∧ Kept L W w'
  bx : ∃ c0 c1 c2 c3, Bx W B #[c0, c1, c2, c3]
  ol : ∀ b, ok b → ¬ L b
  ob : ∀ b, ok b → b ≠ B
  lb : ¬ L B
  l0 : ∀ b, L b → w.heap.size ≤ b
  b0 : w.heap.size ≤ B
  o0 : ∀ b, b < w.heap.size → ok b
  rel : Rel m D' R'
  q : D'.q.length ≤ m
  be : Below w.heap.size w W
section
variable {w W W' : World} {B g B' g' : Nat} {D C D' : Dk} {R S R' : R3} {m m' z : Nat} {L ok L2 ok2 U : Nat → Prop} {BA LA : Option Addr} {bn bc ln lc : Nat} {y : Ac}
theorem Kept.belowU (h : Kept U W W') (hb : Below w.heap.size w W) (hU : ∀ b, U b → w.heap.size ≤ b) : Below w.heap.size w W' := hb.trans (h.below hU hb.size)
theorem Al1.kept (h : Al1 w B g D R m z L ok W) (hk : Kept U W W') (hL : ∀ b, L b → ¬ U b) (ho : ∀ b, ok b → ¬ U b) (hB : ¬ U B) (hU : ∀ b, U b → w.heap.size ≤ b) : Al1 w B g D R m z L ok W' := by
  obtain ⟨BA, bn, bc, LA, ln, lc, ls, h1, h2⟩ := h.rx
  exact ⟨hk.dx h.dx hL, ⟨BA, bn, bc, LA, ln, lc, ls, hk.bx h1 hB, h2.keep fun b hb hlt => hk.block b hlt (ho b hb)⟩, h.ol, h.ob, h.lb, h.l0, h.b0, h.o0, h.rel, h.q, hk.belowU h.be hU⟩
theorem Al1.below (h : Al1 w B g D R m z L ok W) (hb : Below W.heap.size W W') : Al1 w B g D R m z L ok W' := h.kept (U := fun _ => False) (Kept.of_new hb) (fun _ _ h => h) (fun _ _ h => h) (fun h => h) (fun _ h => h.elim)
theorem Al1.step (h : Al1 w B g D R m z L ok W) (hy : AcOk w y) (hm : m ≤ 1000) (hz : z ≤ 4194304) (hg : ErrT w) :
    ∃ BA bn bc LA ln lc, Bx W B #[.slice BA bn bc, .slice LA ln lc, .int .i64 R.armed, .bool R.off] ∧ Calls Tryd.prog 8 #[.pointer (some ⟨g, 0, none⟩), .agg #[.slice BA bn bc, .slice LA ln lc, .int .i64 R.armed, .bool R.off], .agg #[.int .i64 y.a, .int .i64 y.b, .int .i64 y.c, .slice y.A y.n y.m, .slice y.K y.kn y.km]] W.drew
      (fun e w' => ∃ BA2 bn2 bc2 LA2 ln2 lc2, e = .returned (.tuple #[.agg #[.slice BA2 bn2 bc2, .slice LA2 ln2 lc2, .int .i64 (R.act y).1.armed, .bool (R.act y).1.off], .bool true]) ∧ AlS w B g (D.act y).1 (R.act y).1 (m + 1) z L ok W BA2 bn2 bc2 LA2 ln2 lc2 w') := by
  obtain ⟨BA, bn, bc, LA, ln, lc, ls, h1, h2⟩ := h.rx
  have hw0 := hg.lt
  have hlt : ∀ {size n : Nat} {A : Option Addr} {xs : List Value}, 0 < size → Rd w T size A n xs → Rd W.drew ok size A n xs := fun hs hr => (((hr.lt hs).mono fun b hb => hb.2).keep fun b hb _ => h.be.block b hb).mono fun b hb => h.o0 b hb
  refine ⟨BA, bn, bc, LA, ln, lc, h1, ?_⟩
  have hdd : DX W.drew L g D z := h.dx.keep (fun _ _ => rfl) (Nat.le_refl _)
  have hrr : RX W.drew ok (rval R BA bn bc LA ln lc) R := ⟨_, _, _, _, _, _, ls, rfl, h2.keep (W' := W.drew) fun _ _ _ => rfl⟩
  refine (stepL_any W.drew _ hdd h.ol hrr h.rel hm (Nat.le_trans h.q hm) hz ⟨hlt (by omega) hy.1.1, hy.1.2⟩ ⟨hlt (by omega) hy.2.1.1, hy.2.1.2⟩ hy.2.2 ((hg.under h.be hw0) : ErrT W) (fun hl => by have := h.l0 _ hl; omega)).mono ?_
  rintro e w' ⟨v, L', rfl, j1, ⟨BA2, bn2, bc2, LA2, ln2, lc2, ls2, rfl, j2⟩, j3, j4⟩
  exact ⟨BA2, bn2, bc2, LA2, ln2, lc2, rfl, ⟨⟨L', ls2, j1, j2, j3, ⟨j4.os, j4.tape, j4.output, j4.size, j4.block⟩⟩, ⟨_, _, _, _, h1⟩, h.ol, h.ob, h.lb, h.l0, h.b0, h.o0, (h.rel.act hm h.dx.ok).2, Nat.le_trans (act_q D y) (by have := h.q; omega), h.be⟩⟩
theorem AlS.cells {w' : World} (h : AlS w B g D' R' m z L ok W BA bn bc LA ln lc w') : ∃ c0 c1 c2 c3, Bx w' B #[c0, c1, c2, c3] := by
  obtain ⟨L', ls, j1, j2, j3, j4⟩ := h.ex
  obtain ⟨c0, c1, c2, c3, x1⟩ := h.bx
  exact ⟨c0, c1, c2, c3, j4.bx x1 h.lb⟩
/-- Behind the store. -/
theorem AlS.put {w' W1 : World} (h : AlS w B g D' R' m z L ok W BA bn bc LA ln lc w') (hb : Kept U w' W1) (hU : ∀ b, U b → ¬ L b ∧ ¬ ok b ∧ b ≠ B ∧ w.heap.size ≤ b ∧ b < W.heap.size) :
    ∃ L' ok', Al1 w B g D' R' m z L' ok' ((((W1.setCell ⟨B, 0, none⟩ (.slice BA bn bc)).setCell ⟨B, 1, none⟩ (.slice LA ln lc)).setCell ⟨B, 2, none⟩ (.int .i64 R'.armed)).setCell ⟨B, 3, none⟩ (.bool R'.off)) ∧
      (∀ b, L' b → L b ∨ W.heap.size ≤ b) ∧ (∀ b, ok' b → ok b ∨ W.heap.size ≤ b) ∧ Kept (fun b => L b ∨ b = B ∨ U b) W ((((W1.setCell ⟨B, 0, none⟩ (.slice BA bn bc)).setCell ⟨B, 1, none⟩ (.slice LA ln lc)).setCell ⟨B, 2, none⟩ (.int .i64 R'.armed)).setCell ⟨B, 3, none⟩ (.bool R'.off)) := by
  obtain ⟨L', ls, j1, j2, j3, j4⟩ := h.ex
  obtain ⟨c0, c1, c2, c3, x1⟩ := h.bx
  have hBl := x1.lt
  have k1 : Kept (fun b => L b ∨ b = B ∨ U b) W w' := ⟨j4.os, j4.tape, j4.output, j4.size, fun i hi hu => j4.block i hi fun hl => hu (.inl hl)⟩
  have k2 : Kept (fun b => L b ∨ b = B ∨ U b) W W1 := k1.trans hb fun b _ h => .inr (.inr h)
  have hk : Kept (fun b => L b ∨ b = B ∨ U b) W ((((W1.setCell ⟨B, 0, none⟩ (.slice BA bn bc)).setCell ⟨B, 1, none⟩ (.slice LA ln lc)).setCell ⟨B, 2, none⟩ (.int .i64 R'.armed)).setCell ⟨B, 3, none⟩ (.bool R'.off)) := (((k2.set (p := ⟨B, 0, none⟩) (.inr (.inl rfl)) _).set (p := ⟨B, 1, none⟩) (.inr (.inl rfl)) _).set (p := ⟨B, 2, none⟩) (.inr (.inl rfl)) _).set (p := ⟨B, 3, none⟩) (.inr (.inl rfl)) _
  have hkb : ∀ b, b ≠ B → ((((W1.setCell ⟨B, 0, none⟩ (.slice BA bn bc)).setCell ⟨B, 1, none⟩ (.slice LA ln lc)).setCell ⟨B, 2, none⟩ (.int .i64 R'.armed)).setCell ⟨B, 3, none⟩ (.bool R'.off)).heap[b]? = W1.heap[b]? := fun b hn => by
    rw [Below.heap_setCell _ _ _ b (fun e => hn e), Below.heap_setCell _ _ _ b (fun e => hn e), Below.heap_setCell _ _ _ b (fun e => hn e), Below.heap_setCell _ _ _ b (fun e => hn e)]
  have hsz : W1.heap.size = ((((W1.setCell ⟨B, 0, none⟩ (.slice BA bn bc)).setCell ⟨B, 1, none⟩ (.slice LA ln lc)).setCell ⟨B, 2, none⟩ (.int .i64 R'.armed)).setCell ⟨B, 3, none⟩ (.bool R'.off)).heap.size := by simp [World.setCell]
  have hLB : ∀ b, L' b → b ≠ B := fun b hb e => by
    subst e
    rcases j3 b hb with h4 | h4
    · exact h.lb h4
    · omega
  have hu : ∀ b, (fun b => L b ∨ b = B ∨ U b) b → w.heap.size ≤ b := fun b hb => by
    rcases hb with h4 | h4 | h4
    · exact h.l0 b h4
    · rw [h4]; exact h.b0
    · exact (hU b h4).2.2.2.1
  have hLU : ∀ b, L' b → ¬ U b := fun b hb hu => by
    have h5 := hU b hu
    rcases j3 b hb with h4 | h4
    · exact h5.1 h4
    · omega
  have hws := h.be.size
  refine ⟨L', fun b => (¬ L' b ∧ (ok b ∨ W.heap.size ≤ b)) ∧ b ≠ B, ⟨(hb.dx j1 hLU).keep (fun b hl => hkb b (hLB b hl)) (Nat.le_of_eq hsz), ⟨BA, bn, bc, LA, ln, lc, ls, (((((hb.bx (j4.bx x1 h.lb) fun hu => (hU B hu).2.2.1 rfl).set 0 _).set 1 _).set 2 _).set 3 _), ?_⟩, fun b hb => hb.1.1, fun b hb => hb.2, fun hl => hLB B hl rfl, fun b hl => ?_, h.b0, fun b hb => ?_, h.rel, h.q, hk.belowU h.be hu⟩, j3, fun b hb => hb.1.2, hk⟩
  · refine ((RS.keep (W' := W1) j2 fun b hq hlt => hb.block b hlt fun hu => ?_).mono fun b hq => ?_).keep fun b hq _ => hkb b hq.2
    · have h5 := hU b hu
      rcases hq.2 with h4 | h4
      · exact h5.2.1 h4
      · omega
    refine ⟨hq, fun e => ?_⟩
    subst e
    rcases hq.2 with h4 | h4
    · exact h.ob b h4 rfl
    · omega
  · rcases j3 b hl with h4 | h4
    · exact h.l0 b h4
    · omega
  · refine ⟨⟨fun hl => ?_, .inl (h.o0 b hb)⟩, fun e => ?_⟩
    · rcases j3 b hl with h4 | h4
      · have := h.l0 b h4
        omega
      · omega
    · have := h.b0
      omega
/-- Two pairs: each its own. -/
def Pair (w : World) (B g : Nat) (D : Dk) (R : R3) (m : Nat) (B' g' : Nat) (C : Dk) (S : R3) (m' z : Nat) (W : World) : Prop :=
  ∃ L ok L2 ok2, Al1 w B g D R m z L ok W ∧ Al1 w B' g' C S m' z L2 ok2 W ∧ (∀ b, L b → ¬ L2 b) ∧ (∀ b, ok b → ¬ L2 b) ∧ (∀ b, ok2 b → ¬ L b) ∧ (∀ b, ok b → b ≠ B') ∧ (∀ b, ok2 b → b ≠ B) ∧ ¬ L B' ∧ ¬ L2 B ∧ B ≠ B' ∧ B < W.heap.size ∧ B' < W.heap.size
theorem Pair.swap (h : Pair w B g D R m B' g' C S m' z W) : Pair w B' g' C S m' B g D R m z W := by
  obtain ⟨L, ok, L2, ok2, h1, h2, h3, h4, h5, h6, h7, h8, h9, h10, h11, h12⟩ := h
  exact ⟨L2, ok2, L, ok, h2, h1, fun b h h' => h3 b h' h, h5, h4, h7, h6, h9, h8, h10.symm, h12, h11⟩
theorem Pair.below (h : Pair w B g D R m B' g' C S m' z W) (hb : Below W.heap.size W W') : Pair w B g D R m B' g' C S m' z W' := by
  obtain ⟨L, ok, L2, ok2, h1, h2, h3, h4, h5, h6, h7, h8, h9, h10, h11, h12⟩ := h
  have := hb.size
  exact ⟨L, ok, L2, ok2, h1.below hb, h2.below hb, h3, h4, h5, h6, h7, h8, h9, h10, by omega, by omega⟩
theorem Pair.be (h : Pair w B g D R m B' g' C S m' z W) : Below w.heap.size w W := by
  obtain ⟨L, ok, L2, ok2, h1, _⟩ := h
  exact h1.be
/-- Behind a deed at the first pair: blocks that were made ahead of the call, none of the pairs', may be other ones. -/
def PairS (w : World) (B g : Nat) (D' : Dk) (R' : R3) (m : Nat) (B' g' : Nat) (C : Dk) (S : R3) (m' z : Nat) (W Wc : World) (BA : Option Addr) (bn bc : Nat) (LA : Option Addr) (ln lc : Nat) (w' : World) : Prop :=
  (∃ c0 c1 c2 c3, Bx w' B #[c0, c1, c2, c3]) ∧ (Wc.heap.size ≤ w'.heap.size) ∧ (∀ b, W.heap.size ≤ b → b < Wc.heap.size → w'.heap[b]? = Wc.heap[b]?) ∧ ∀ W1, Kept (fun b => W.heap.size ≤ b ∧ b < Wc.heap.size) w' W1 → Pair w B g D' R' m B' g' C S m' z ((((W1.setCell ⟨B, 0, none⟩ (.slice BA bn bc)).setCell ⟨B, 1, none⟩ (.slice LA ln lc)).setCell ⟨B, 2, none⟩ (.int .i64 R'.armed)).setCell ⟨B, 3, none⟩ (.bool R'.off))
theorem Pair.step (h : Pair w B g D R m B' g' C S m' z W) (hy : AcOk w y) (hm : m ≤ 1000) (hz : z ≤ 4194304) (hg : ErrT w) :
    ∃ BA bn bc LA ln lc, Bx W B #[.slice BA bn bc, .slice LA ln lc, .int .i64 R.armed, .bool R.off] ∧ ∀ Wc, Below W.heap.size W Wc → Calls Tryd.prog 8 #[.pointer (some ⟨g, 0, none⟩), .agg #[.slice BA bn bc, .slice LA ln lc, .int .i64 R.armed, .bool R.off], .agg #[.int .i64 y.a, .int .i64 y.b, .int .i64 y.c, .slice y.A y.n y.m, .slice y.K y.kn y.km]] Wc.drew
      (fun e w' => ∃ BA2 bn2 bc2 LA2 ln2 lc2, e = .returned (.tuple #[.agg #[.slice BA2 bn2 bc2, .slice LA2 ln2 lc2, .int .i64 (R.act y).1.armed, .bool (R.act y).1.off], .bool true]) ∧ PairS w B g (D.act y).1 (R.act y).1 (m + 1) B' g' C S m' z W Wc BA2 bn2 bc2 LA2 ln2 lc2 w') := by
  obtain ⟨L, ok, L2, ok2, h1, h2, h3, h4, h5, h6, h7, h8, h9, h10, h11, h12⟩ := h
  obtain ⟨BA, bn, bc, LA, ln, lc, ls, x1, r1⟩ := h1.rx
  refine ⟨BA, bn, bc, LA, ln, lc, x1, fun Wc hbc => ?_⟩
  have hws := h1.be.size
  have hcs := hbc.size
  have hLW := h1.dx.lt
  have hL2W := h2.dx.lt
  have h1' : Al1 w B g D R m z L (fun b => ok b ∧ b < W.heap.size) W := ⟨h1.dx, ⟨_, _, _, _, _, _, _, x1, r1.lt⟩, fun b hb => h1.ol b hb.1, fun b hb => h1.ob b hb.1, h1.lb, h1.l0, h1.b0, fun b hb => ⟨h1.o0 b hb, by omega⟩, h1.rel, h1.q, h1.be⟩
  obtain ⟨BA9, bn9, bc9, LA9, ln9, lc9, x9, hc⟩ := (h1'.below hbc).step hy hm hz hg
  have x1' := x1.below hbc
  have e0 := (x1'.c 0).symm.trans (x9.c 0)
  have e1 := (x1'.c 1).symm.trans (x9.c 1)
  simp only [Option.some.injEq, List.getElem?_toArray, List.getElem?_cons_zero, List.getElem?_cons_succ, Value.slice.injEq] at e0 e1
  obtain ⟨rfl, rfl, rfl⟩ := e0
  obtain ⟨rfl, rfl, rfl⟩ := e1
  refine hc.mono ?_
  rintro e w' ⟨BA2, bn2, bc2, LA2, ln2, lc2, rfl, hs⟩
  obtain ⟨_, _, _, _, _, k0⟩ := hs.ex
  refine ⟨BA2, bn2, bc2, LA2, ln2, lc2, rfl, hs.cells, k0.size, fun b hb hlt => k0.block b hlt fun hl => by have := hLW b hl; omega, fun W1 hb => ?_⟩
  obtain ⟨L', ok', q1, q2, q3, q4⟩ := hs.put hb fun b hu => ⟨fun hl => by have := hLW b hl; omega, fun ho => by have := ho.2; omega, by omega, by omega, hu.2⟩
  obtain ⟨BA3, bn3, bc3, LA3, ln3, lc3, ls3, x3, r3⟩ := h2.rx
  have h2' : Al1 w B' g' C S m' z L2 (fun b => ok2 b ∧ b < W.heap.size) W := ⟨h2.dx, ⟨_, _, _, _, _, _, _, x3, r3.lt⟩, fun b hb => h2.ol b hb.1, fun b hb => h2.ob b hb.1, h2.lb, h2.l0, h2.b0, fun b hb => ⟨h2.o0 b hb, by omega⟩, h2.rel, h2.q, h2.be⟩
  have hd : ∀ b, L2 b → ¬ L' b := fun b hb hl => by
    rcases q2 b hl with h | h
    · exact h3 b h hb
    · have := hL2W b hb
      omega
  have hsz := q4.size
  refine ⟨L', ok', L2, fun b => ok2 b ∧ b < W.heap.size, q1, (h2'.below hbc).kept q4 ?_ ?_ ?_ ?_, fun b hl h2 => hd b h2 hl, ?_, ?_, ?_, fun b hb => h7 b hb.1, ?_, h9, h10, by omega, by omega⟩
  · rintro b hb (h | h | h)
    · exact h3 b h hb
    · subst h; exact h9 hb
    · have := hL2W b hb
      omega
  · rintro b hb (h | h | h)
    · exact h5 b hb.1 h
    · exact h7 b hb.1 h
    · have := hb.2
      omega
  · rintro (h | h | h)
    · exact h8 h
    · exact h10 h.symm
    · omega
  · rintro b (h | h | h)
    · exact h1.l0 b h
    · rw [h]; exact h1.b0
    · omega
  · intro b hb hl
    rcases q3 b hb with h | h
    · exact h4 b h.1 hl
    · have := hL2W b hl
      omega
  · rintro b ⟨hb, hlt⟩ hl
    rcases q2 b hl with h | h
    · exact h5 b hb h
    · omega
  · intro b hb e
    rcases q3 b hb with h | h
    · exact h6 b h.1 e
    · omega
  · intro hl
    rcases q2 _ hl with h | h
    · exact h8 h
    · omega
/-- The deed's result lies in a block of its own, ahead of the store. -/
def StoreP (w : World) (B g : Nat) (D' : Dk) (R' : R3) (m : Nat) (B' g' : Nat) (C : Dk) (S : R3) (m' z : Nat) (t : Nat) (W : World) : Prop :=
  ∃ BA bn bc LA ln lc, t ≠ B ∧ Bx W t #[.slice BA bn bc, .slice LA ln lc, .int .i64 R'.armed, .bool R'.off] ∧ (∃ c0 c1 c2 c3, Bx W B #[c0, c1, c2, c3]) ∧ Pair w B g D' R' m B' g' C S m' z ((((W.setCell ⟨B, 0, none⟩ (.slice BA bn bc)).setCell ⟨B, 1, none⟩ (.slice LA ln lc)).setCell ⟨B, 2, none⟩ (.int .i64 R'.armed)).setCell ⟨B, 3, none⟩ (.bool R'.off))
theorem PairS.new {w' Wc : World} (h : PairS w B g D' R' m B' g' C S m' z W Wc BA bn bc LA ln lc w') : StoreP w B g D' R' m B' g' C S m' z w'.heap.size (w'.alloc (.cells #[.slice BA bn bc, .slice LA ln lc, .int .i64 R'.armed, .bool R'.off] 31)) := by
  obtain ⟨⟨c0, c1, c2, c3, h1⟩, h2, h3, h4⟩ := h
  have hb : Below w'.heap.size w' (w'.alloc (.cells #[.slice BA bn bc, .slice LA ln lc, .int .i64 R'.armed, .bool R'.off] 31)) := (Below.refl _ _).alloc (Nat.le_refl _) _
  exact ⟨BA, bn, bc, LA, ln, lc, fun e => by have := h1.lt; omega, Bx.new _ _ _ rfl, ⟨c0, c1, c2, c3, h1.below hb⟩, h4 _ (Kept.of_new hb)⟩
theorem PairS.old {w' Wc : World} (h : PairS w B g D' R' m B' g' C S m' z W Wc BA bn bc LA ln lc w') (hB : B < W.heap.size) {d0 d1 d2 d3 : Value} {t : TypeId} (hc : Wc = W.alloc (.cells #[d0, d1, d2, d3] t)) : StoreP w B g D' R' m B' g' C S m' z W.heap.size ((((w'.setCell ⟨W.heap.size, 0, none⟩ (.slice BA bn bc)).setCell ⟨W.heap.size, 1, none⟩ (.slice LA ln lc)).setCell ⟨W.heap.size, 2, none⟩ (.int .i64 R'.armed)).setCell ⟨W.heap.size, 3, none⟩ (.bool R'.off)) := by
  obtain ⟨⟨c0, c1, c2, c3, h1⟩, h2, h3, h4⟩ := h
  have hz : Wc.heap.size = W.heap.size + 1 := by rw [hc]; simp
  have hT : Bx w' W.heap.size #[d0, d1, d2, d3] := Bx.keep (W := Wc) (by rw [hc]; exact Bx.new _ _ _ rfl) (h3 _ (Nat.le_refl _) (by omega))
  have hk : Kept (fun b => W.heap.size ≤ b ∧ b < Wc.heap.size) w' ((((w'.setCell ⟨W.heap.size, 0, none⟩ (.slice BA bn bc)).setCell ⟨W.heap.size, 1, none⟩ (.slice LA ln lc)).setCell ⟨W.heap.size, 2, none⟩ (.int .i64 R'.armed)).setCell ⟨W.heap.size, 3, none⟩ (.bool R'.off)) := ((((Kept.refl _ w').set (p := ⟨W.heap.size, 0, none⟩) ⟨Nat.le_refl _, by show W.heap.size < _; omega⟩ _).set (p := ⟨W.heap.size, 1, none⟩) ⟨Nat.le_refl _, by show W.heap.size < _; omega⟩ _).set (p := ⟨W.heap.size, 2, none⟩) ⟨Nat.le_refl _, by show W.heap.size < _; omega⟩ _).set (p := ⟨W.heap.size, 3, none⟩) ⟨Nat.le_refl _, by show W.heap.size < _; omega⟩ _
  exact ⟨BA, bn, bc, LA, ln, lc, by omega, (((hT.set 0 _).set 1 _).set 2 _).set 3 _, ⟨c0, c1, c2, c3, hk.bx h1 fun hu => by omega⟩, h4 _ hk⟩
theorem PairS.temp {w' Wc : World} (h : PairS w B g D' R' m B' g' C S m' z W Wc BA bn bc LA ln lc w') {d0 d1 d2 d3 : Value} {t : TypeId} (hc : Wc = W.alloc (.cells #[d0, d1, d2, d3] t)) : Bx w' W.heap.size #[d0, d1, d2, d3] := by
  obtain ⟨⟨c0, c1, c2, c3, h1⟩, h2, h3, h4⟩ := h
  exact Bx.keep (W := Wc) (by rw [hc]; exact Bx.new _ _ _ rfl) (h3 _ (Nat.le_refl _) (by rw [hc]; simp))
end
end Go.Proofs.YtefhkhocbcnbcaaDoor
