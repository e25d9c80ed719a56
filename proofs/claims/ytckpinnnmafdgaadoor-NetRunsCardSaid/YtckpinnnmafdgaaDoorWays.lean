/- The map of ways: keyed by two numbers. -/
import Derived.Test.YtckpinnnmafdgaaDoorRows
import Derived.Test.YtckpinnnmafdgaaDoorFlat
import Derived.DeepKeys4
import Derived.Maps.Own
import Derived.Maps.OwnSet
import Derived.Maps.OwnOps
import Derived.Maps.Views
namespace Go.Proofs.YtckpinnnmafdgaaDoor
open Go.RowKit Go.Maps
set_option linter.unusedVariables false
set_option linter.unusedSimpArgs false
set_option maxRecDepth 100000
theorem waysLaid : laidOutB Tryd.prog = true := by kernel_rfl
theorem law2 : Keyed Tryd.prog 66 := Keyed.of_law (deep_law_laid waysLaid (m := 3) (by omega) (of_decide_eq_true (by kernel_rfl)) (by kernel_rfl) (by rw [Tryd.underlying66]))
def key2 (a b : Int) : Value := .agg #[.int .i64 a, .int .i64 b]
def lit2 (a b : Int) : Lit := .string (keyBytes [.int .i64 a, .int .i64 b])
theorem keyOf2 (a b : Int) (ha : I64 a) (hb : I64 b) : keyOf Tryd.prog 66 (key2 a b) = some (lit2 a b) := by
  have w1 : (Lit.int .i64 a).wf = true := WalkArith.wf_i64 ha
  have w2 : (Lit.int .i64 b).wf = true := WalkArith.wf_i64 hb
  have h1 : Tryd.prog.keyType 66 = true := by kernel_rfl
  have h2 : (Value.formed Tryd.prog 66 (key2 a b)) = true := by
    unfold key2 Value.formed
    rw [Tryd.underlying66]
    kernel_rfl
  unfold keyOf
  rw [Tryd.underlying66]
  simp only [h1, h2, Bool.and_self, if_true]
  have h3 : Tryd.prog.types.size + 1 = (Tryd.prog.types.size - 1) + 1 + 1 := by
    have : 0 < Tryd.prog.types.size := of_decide_eq_true (by kernel_rfl)
    omega
  rw [h3]
  generalize Tryd.prog.types.size - 1 = d
  have hc : Tryd.prog.cellsOf 3 = 1 := by kernel_rfl
  have hc2 : Tryd.prog.cellsOf 66 = 2 := by kernel_rfl
  have k1 : ∀ z : Int, (Lit.int .i64 z).wf = true → Tryd.prog.keyLits (d + 1) 3 [.int .i64 z] = some [.int .i64 z] := by
    intro z hz
    unfold Program.keyLits
    rw [Tryd.underlying3]
    simp only [hz, and_self, if_true]
  have hcs : (key2 a b).cells.toList = [.int .i64 a, .int .i64 b] := rfl
  rw [hcs]
  have k2 : Tryd.prog.keyLits (d + 1 + 1) 66 [.int .i64 a, .int .i64 b] = some [.int .i64 a, .int .i64 b] := by
    unfold Program.keyLits
    rw [Tryd.underlying66]
    simp only [hc, hc2, List.length_cons, List.length_nil, Nat.zero_add, Nat.reduceAdd, if_true]
    have r : List.range 2 = [0, 1] := rfl
    rw [r]
    simp only [List.mapM_cons, List.mapM_nil, Nat.zero_mul, Nat.one_mul, List.drop_zero, List.take_succ_cons, List.take_zero, List.drop_succ_cons, k1 a w1, k1 b w2]
    rfl
  rw [k2]
  rfl
theorem lit2_inj {a b c d : Int} (ha : I64 a) (hb : I64 b) (hc : I64 c) (hd : I64 d) (h : lit2 a b = lit2 c d) : a = c ∧ b = d := by
  have h1 := keyOf2 a b ha hb
  have h2 := keyOf2 c d hc hd
  rw [h] at h1
  have := law2.inj h1 h2
  unfold key2 at this
  injection this with this
  have h3 := congrArg Array.toList this
  simp at h3
  exact h3
/-- The map holds f. -/
def MS (W : World) (gm cnt : Nat) (f : Int → Int → Int) : Prop := ∃ D : DataW Unit, W.ownsMap Tryd.prog 66 (plainElem Tryd.prog 3) gm cnt D ∧ IsMap D ∧ ∀ a b, I64 a → I64 b → D.atKey (lit2 a b) (.lit (.int .i64 0)) = .lit (.int .i64 (f a b))
def upd (f : Int → Int → Int) (a b z : Int) : Int → Int → Int := fun x y => if x = a ∧ y = b then z else f x y
theorem zeroI (w : World) : (zeroValue 3).run Tryd.prog w = .ok (.int .i64 0) w := by kernel_rfl
section
variable {W W' : World} {gm cnt : Nat} {f : Int → Int → Int}
theorem MS.made (w : World) : MS (w.alloc (.map #[] 0)) w.heap.size 0 (fun _ _ => 0) := ⟨.map [], World.ownsMap_made w _ _ _, ⟨[], rfl⟩, fun _ _ _ _ => rfl⟩
theorem MS.mono (h : MS W gm cnt f) {c' : Nat} (hc : cnt ≤ c') : MS W gm c' f := by obtain ⟨D, h1, h2⟩ := h; exact ⟨D, h1.mono hc, h2⟩
theorem MS.lt (h : MS W gm cnt f) : gm < W.heap.size := by obtain ⟨D, h1, _⟩ := h; exact h1.lt
theorem MS.grown {row : Option Nat} (h : MS W gm cnt f) (hg : W.grownBy W' row) (hne : some gm ≠ row) : MS W' gm cnt f := by
  obtain ⟨D, h1, h2⟩ := h
  exact ⟨D, h1.kept hg hne, h2⟩
theorem MS.below (h : MS W gm cnt f) (hb : Below W.heap.size W W') : MS W' gm cnt f :=
  h.grown (row := none) ⟨hb.os, hb.tape, hb.output, hb.size, fun k hk _ => hb.block k hk⟩ (by simp)
theorem MS.alloc (h : MS W gm cnt f) (o : Obj) : MS (W.alloc o) gm cnt f := h.below ((Below.refl _ _).alloc (Nat.le_refl _) o)
theorem MS.drew (h : MS W gm cnt f) : MS W.drew gm cnt f := h
theorem MS.far (h : MS W gm cnt f) {p : Addr} (hp : gm ≠ p.block) (v : Value) : MS (W.setCell p v) gm cnt f :=
  h.grown (row := some p.block) ⟨rfl, rfl, rfl, by simp [World.setCell], fun k _ hk => Below.heap_setCell _ _ _ k (fun e => hk (by rw [e]))⟩ (fun e => hp (by injection e))
theorem MS.look (h : MS W gm cnt f) {a b : Int} (ha : I64 a) (hb : I64 b) : (Instr.lookup 62 (.map (some gm)) (key2 a b) false).run Tryd.prog W = .ok (.int .i64 (f a b)) W := by
  obtain ⟨D, h1, _, h3⟩ := h
  obtain ⟨c, hrun, hat, _⟩ := h1.lookup_int law2 Tryd.underlying62 Tryd.underlying3 (zeroI W) (keyOf2 a b ha hb)
  rw [h3 a b ha hb] at hat
  injection hat with hat
  injection hat with _ hat
  rw [hrun, hat]
theorem MS.put (h : MS W gm cnt f) (hc : cnt < 1000000) {a b z : Int} (ha : I64 a) (hb : I64 b) (hz : I64 z) : ∃ W', (Instr.mapUpdate 62 (.map (some gm)) (key2 a b) (.int .i64 z)).run Tryd.prog W = .ok () W' ∧ MS W' gm (cnt + 1) (upd f a b z) ∧ W.grownBy W' (some gm) := by
  obtain ⟨D, h1, h2, h3⟩ := h
  obtain ⟨W', hrun, h4, h5⟩ := h1.update law2 Tryd.underlying62 (by unfold maxLen; omega) (keyOf2 a b ha hb) (plainElem_int Tryd.underlying3 (WalkArith.wf_i64 hz))
  refine ⟨W', hrun, ⟨_, h4, ?_, ?_⟩, h5⟩
  · obtain ⟨es, rfl⟩ := h2
    exact ⟨_, rfl⟩
  · intro x y hx hy
    unfold upd
    by_cases e : x = a ∧ y = b
    · rw [if_pos e, e.1, e.2]
      exact atKey_put_same h2 (law2.key (keyOf2 a b ha hb)) _ _
    · rw [if_neg e, atKey_put_other (fun h' => e (lit2_inj hx hy ha hb h'))]
      exact h3 x y hx hy
theorem MS.del (h : MS W gm cnt f) {a b : Int} (ha : I64 a) (hb : I64 b) (ty : TypeId) : ∃ W', (Builtin.delete_ #[62, 66] ty #[.map (some gm), key2 a b]).run Tryd.prog W = .ok (.tuple #[]) W' ∧ MS W' gm cnt (upd f a b 0) ∧ W.grownBy W' (some gm) := by
  obtain ⟨D, h1, h2, h3⟩ := h
  obtain ⟨W', hrun, h4, h5⟩ := h1.drop law2 Tryd.underlying62 (keyOf2 a b ha hb) ty
  refine ⟨W', hrun, ⟨_, h4, ?_, ?_⟩, h5.grown⟩
  · obtain ⟨es, rfl⟩ := h2
    exact ⟨_, rfl⟩
  · intro x y hx hy
    unfold upd
    by_cases e : x = a ∧ y = b
    · rw [if_pos e, e.1, e.2]
      exact atKey_del_same _
    · rw [if_neg e, atKey_del_other (fun h' => e (lit2_inj hx hy ha hb h'))]
      exact h3 x y hx hy
end
end Go.Proofs.YtckpinnnmafdgaaDoor
