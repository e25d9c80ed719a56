/- A block of cells known whole (a variable's box): kept over calls, new blocks, draws, stores elsewhere. -/
import Derived.Test.YtefjejlpbfbpcaaDoorBase
import Derived.Deep.RegionHeld3
namespace Go.Proofs.YtefjejlpbfbpcaaDoor
open Go.RowKit
set_option linter.unusedVariables false
set_option linter.unusedSimpArgs false
theorem below_realloc {B : Nat} {a w : World} {o : Obj} (h : Below B a (w.alloc o)) (hB : B ≤ w.heap.size) (hs : a.heap.size ≤ w.heap.size) (o' : Obj) : Below B a (w.alloc o') := by
  have : Below B a w := ⟨h.os, h.tape, h.output, hs, fun k hk => (Below.heap_alloc w o k (by omega)).symm.trans (h.block k hk)⟩
  exact this.alloc hB o'
theorem Rd.blk {w : World} {ok ok' : Nat → Prop} {size n : Nat} {A : Option Addr} {xs : List Value} (h : Rd w ok size A n xs) (h2 : ∀ b, A.map (·.block) = some b → ok' b) : Rd w ok' size A n xs :=
  ⟨h.1, fun hn => by obtain ⟨ad, e, hb, hc⟩ := h.2 hn; exact ⟨ad, e, h2 _ (by rw [e]; rfl), hc⟩⟩
structure Bx (W : World) (g : Nat) (cs : Array Value) : Prop where
  hp : ∃ t, W.heap[g]? = some (.cells cs t (0, 0))
section
variable {W W' : World} {g : Nat} {cs : Array Value}
theorem Bx.c (h : Bx W g cs) : ∀ i, W.cell? ⟨g, i, none⟩ = cs[i]? := fun i => by
  obtain ⟨t, ht⟩ := h.hp
  exact cell_of_row W g i cs t (0, 0) ht
theorem Bx.f (h : Bx W g cs) : ∀ i, W.frozen? ⟨g, i, none⟩ = false := fun i => by
  obtain ⟨t, ht⟩ := h.hp
  simp [World.frozen?, ht]
theorem Bx.lt (h : Bx W g cs) : g < W.heap.size := by
  obtain ⟨t, ht⟩ := h.hp
  exact (Array.getElem?_eq_some_iff.1 ht).1
theorem Bx.keep (h : Bx W g cs) (hk : W'.heap[g]? = W.heap[g]?) : Bx W' g cs := by
  obtain ⟨t, ht⟩ := h.hp
  exact ⟨t, hk.trans ht⟩
theorem Bx.below (h : Bx W g cs) (hb : Below W.heap.size W W') : Bx W' g cs := h.keep (hb.block g h.lt)
theorem Bx.under {B : Nat} (h : Bx W g cs) (hb : Below B W W') (hg : g < B) : Bx W' g cs := h.keep (hb.block g hg)
theorem Bx.drew (h : Bx W g cs) : Bx W.drew g cs := h.keep rfl
theorem Bx.drewN (h : Bx W g cs) (n : Nat) : Bx (W.drewN n) g cs := h.keep rfl
theorem Bx.alloc (h : Bx W g cs) (o : Obj) : Bx (W.alloc o) g cs := h.keep (Below.heap_alloc W o g h.lt)
theorem Bx.grown {row : Option Nat} (h : Bx W g cs) (hg : W.grownBy W' row) (hr : row ≠ some g) : Bx W' g cs := h.keep (hg.block g h.lt (fun e => hr e.symm))
theorem Bx.far (h : Bx W g cs) {p : Addr} (hp : g ≠ p.block) (v : Value) : Bx (W.setCell p v) g cs := h.keep (Below.heap_setCell W p v g hp)
theorem Bx.set (h : Bx W g cs) (i : Nat) (v : Value) : Bx (W.setCell ⟨g, i, none⟩ v) g (cs.setIfInBounds i v) := by
  obtain ⟨t, ht⟩ := h.hp
  exact ⟨t, by simp [World.setCell, Array.getElem?_modify, ht]⟩
theorem Bx.new (W : World) (cs : Array Value) (t : TypeId) {g : Nat} (hg : g = W.heap.size) : Bx (W.alloc (.cells cs t)) g cs := by
  subst hg
  exact ⟨t, heap_alloc_new W _⟩
theorem Bx.ne_own (h : Bx W g cs) {base : Nat} {e : TypeId} {size n m c : Nat} {A : Option Addr} {xs : List Value} (ho : W.ownsRow base e size (.slice A n c) m xs) (hb : g < base) : A.map (·.block) ≠ some g := by
  intro e'
  have := own_lt ho g e'
  omega
end

/-- Bytes never lie in a box that holds no byte. -/
theorem Rd.off_box {W : World} {ok : Nat → Prop} {A : Option Addr} {n g : Nat} {l : List UInt8} {cs : Array Value} (h : Rd W ok 1 A n (bs l)) (hx : Bx W g cs) (hcs : ∀ (i : Nat) (z : Int), cs[i]? ≠ some (.int .u8 z)) : Rd W (fun b => ok b ∧ b ≠ g) 1 A n (bs l) := by
  refine ⟨h.1, fun hn => ?_⟩
  obtain ⟨ad, e, hb, hc⟩ := h.2 hn
  refine ⟨ad, e, ⟨hb, ?_⟩, hc⟩
  intro hg
  obtain ⟨b, o, sp⟩ := ad
  dsimp only at hg
  subst hg
  have hl := h.blen
  have h0 := hc 0 _ (bs_get l 0 (by omega))
  have e0 : (⟨b, o, sp⟩ : Addr).add 0 = ⟨b, o, sp⟩ := rfl
  rw [e0] at h0
  have hs : sp = none := World.cell?_spot h0
  subst hs
  rw [hx.c o] at h0
  exact hcs _ _ h0

theorem own_le {w : World} {base : Nat} {e : TypeId} {size n c : Nat} {A : Option Addr} {xs : List Value} (h : w.ownsRow base e size (.slice A n c) n xs) : n ≤ c := by
  obtain ⟨A', c', e1, h2, _⟩ := own_form h
  injection e1 with _ _ e1
  omega
theorem own_below {w w' : World} {B e size n : Nat} {v : Value} {xs : List Value} (h : w.ownsRow B e size v n xs) (hb : Below w.heap.size w w') : w'.ownsRow B e size v n xs :=
  h.kept (row := none) ⟨hb.os, hb.tape, hb.output, hb.size, fun k hk _ => hb.block k hk⟩ (by cases v.ownBlock <;> simp)

/-- Where the elements lie: a plain place. -/
theorem Rd.plain {w : World} {ok : Nat → Prop} {size n : Nat} {A : Option Addr} {xs : List Value} (h : Rd w ok size A n xs) (hn : 0 < n) (hs : 0 < size) : ∃ b o, A = some ⟨b, o, none⟩ ∧ ok b ∧ b < w.heap.size ∧ ∀ j u, xs[j]? = some u → w.cell? ⟨b, o + j, none⟩ = some u := by
  obtain ⟨ad, e, hb, hc⟩ := h.2 hn
  obtain ⟨b, o, sp⟩ := ad
  have hpos : 0 < n * size := Nat.mul_pos hn hs
  have hl : 0 < xs.length := by rw [h.1]; exact hpos
  have h0 := hc 0 _ (List.getElem?_eq_getElem hl)
  have e0 : (⟨b, o, sp⟩ : Addr).add 0 = ⟨b, o, sp⟩ := rfl
  rw [e0] at h0
  have hs : sp = none := World.cell?_spot h0
  subst hs
  refine ⟨b, o, e, hb, World.block_lt_of_cell? w _ h0, fun j u hu => ?_⟩
  have := hc j u hu
  unfold Addr.add at this
  split at this
  · rename_i hj; subst hj; exact this
  · exact this

/-- It says yes, and nothing that was there has turned. -/
def YesPost (W : World) (e : Ending) (w' : World) : Prop := e = .returned (.bool true) ∧ Below W.heap.size W w'

section
variable {P : Program} (t : TypeId) {e : TypeId} {size : Nat} (ht : P.underlying t = some (.slice e)) (hz : (P.info? e).map (·.size) = some size) (a : Option Addr) (n c : Nat) (w : World)
include ht hz
theorem sizeOf_elem : (sizeOf (P.elem t)).run P w = .ok size w := by
  have he : P.elem t = e := by unfold Program.elem; rw [ht]
  obtain ⟨i, hi, rfl⟩ := Option.map_eq_some_iff.1 hz
  rw [he]
  simp [sizeOf, typeInfo, hi]
omit hz in
theorem elem_of : P.underlying t = some (.slice (P.elem t)) := by
  have he : P.elem t = e := by unfold Program.elem; rw [ht]
  rw [he]; exact ht
/-- 's[l:]'. -/
theorem run_slice_lo (l : Nat) (h1 : l ≤ n) : (Instr.sliceAt t (.slice a n c) (some (.int .i64 (l : Int))) none none).run P w = .ok (.slice (if c = l then a else a.map (·.add (l * size))) (n - l) (c - l)) w := by
  have ht' := elem_of t ht
  rw [run_sliceAt_slice (P := P) (w := w) t _ _ _ _ ht', run_slice_l (P := P) (w := w) (t := t) (a := a) (len := n) (cap := c) ht' .i64 _ (by omega) (by omega), sizeOf_elem t ht hz]
  simp [sliced]
/-- 's[:h]'. -/
theorem run_slice_hi (h : Nat) (h1 : h ≤ c) : (Instr.sliceAt t (.slice a n c) none (some (.int .i64 (h : Int))) none).run P w = .ok (.slice (if c = 0 then a else a.map (·.add (0 * size))) h c) w := by
  have ht' := elem_of t ht
  rw [run_sliceAt_slice (P := P) (w := w) t _ _ _ _ ht', run_slice_h (P := P) (w := w) (t := t) (a := a) (len := n) (cap := c) ht' .i64 _ (by omega) (by omega), sizeOf_elem t ht hz]
  simp [sliced]
/-- 's[l:h]'. -/
theorem run_slice_lohi (l h : Nat) (h1 : l ≤ h) (h2 : h ≤ c) : (Instr.sliceAt t (.slice a n c) (some (.int .i64 (l : Int))) (some (.int .i64 (h : Int))) none).run P w = .ok (.slice (if c = l then a else a.map (·.add (l * size))) (h - l) (c - l)) w := by
  have ht' := elem_of t ht
  rw [run_sliceAt_slice (P := P) (w := w) t _ _ _ _ ht', run_slice_lh (P := P) (w := w) (t := t) (a := a) (len := n) (cap := c) ht' .i64 .i64 _ _ (by omega) (by omega) (by omega), sizeOf_elem t ht hz]
  simp [sliced]
end
end Go.Proofs.YtefjejlpbfbpcaaDoor
