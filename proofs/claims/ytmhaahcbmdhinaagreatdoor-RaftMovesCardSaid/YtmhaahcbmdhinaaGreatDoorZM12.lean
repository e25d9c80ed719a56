/- A log of a call's own, in a box: what Merge works on. -/
import Derived.Test.YtmhaahcbmdhinaaGreatDoorZM8
import Derived.Test.YtmhaahcbmdhinaaGreatDoorZM10
import Derived.Test.YtmhaahcbmdhinaaGreatDoorZM11
namespace Go.Proofs.YtmhaahcbmdhinaaGreatDoor
open Go.RowKit
set_option maxRecDepth 100000
set_option linter.unusedVariables false
set_option linter.unusedSimpArgs false
structure Mg (W : World) (B cB : Nat) (b t : Int) (C : Option Addr) (n c : Nat) (cl : List Er) : Prop where
 bx : Bx W cB #[.int .i64 b, .int .i64 t, .slice C n c]
 ow : W.ownsRow B 62 4 (.slice C n c) n (flat ecell cl)
 le : B ≤ cB
 nb : C.map (·.block) ≠ some cB
 dt : ∀ y ∈ cl, Rd W (fun q => B ≤ q ∧ q ≠ cB ∧ C.map (·.block) ≠ some q) 1 y.A y.n (bs y.d) ∧ y.n ≤ y.m ∧ y.m ≤ maxLen
section
variable {W W' : World} {B cB n c : Nat} {b t : Int} {C : Option Addr} {cl : List Er}
theorem Mg.below (h : Mg W B cB b t C n c cl) (hb : Below W.heap.size W W') : Mg W' B cB b t C n c cl :=
 ⟨h.bx.below hb, own_below h.ow hb, h.le, h.nb, fun y hy => ⟨(h.dt y hy).1.below hb, (h.dt y hy).2⟩⟩
theorem Mg.rd (h : Mg W B cB b t C n c cl) : Rd W T 4 C n (flat ecell cl) := (Rd.of_own h.ow).any
theorem Mg.len (h : Mg W B cB b t C n c cl) : cl.length = n := h.rd.flen ecell_len (by omega)
theorem Mg.wel (h : Mg W B cB b t C n c cl) (hw : ∀ y ∈ cl, W64 y) : Wel cl := fun y hy => ⟨hw y hy, ((h.dt y hy).1.blen).symm⟩
theorem Mg.make {A4 : Option Addr} {n4 c4 Bx0 : Nat} {l4 : List Er} (h : Ro W Bx0 A4 n4 c4 l4) (hB : B ≤ Bx0) (hX : Bx W cB #[.int .i64 b, .int .i64 t, .slice A4 n4 c4]) (hle : B ≤ cB) (hnb : A4.map (·.block) ≠ some cB) (hd : ∀ y ∈ l4, Rd W (fun q => B ≤ q ∧ q ≠ cB ∧ A4.map (·.block) ≠ some q) 1 y.A y.n (bs y.d)) : Mg W B cB b t A4 n4 c4 l4 :=
 ⟨hX, own_mono h.ow hB, hle, hnb, fun y hy => ⟨hd y hy, (h.dt y hy).2⟩⟩
theorem Mg.cut {m : Nat} (h : Mg W B cB b t C n c cl) (hm : m ≤ n) (hC : C = none ∨ ∃ g, C = some ⟨g, 0, none⟩) : Mg (W.setCell ⟨cB, 2, none⟩ (.slice C m c)) B cB b t C m c (cl.take m) := by
 have hg : W.grownBy (W.setCell ⟨cB, 2, none⟩ (.slice C m c)) (some cB) := ⟨rfl, rfl, rfl, by simp [World.setCell], fun k _ hk => Below.heap_setCell _ _ _ k (fun e => hk (by rw [e]))⟩
 refine ⟨h.bx.set 2 _, ?_, h.le, h.nb, fun y hy => ⟨(h.dt y (List.mem_of_mem_take hy)).1.setCell (fun q => q.2.1 rfl) _, (h.dt y (List.mem_of_mem_take hy)).2⟩⟩
 have h1 : W.ownsRow B 62 4 (.slice C m c) m (flat ecell (cl.take m)) := by
  rcases hC with rfl | ⟨g, rfl⟩
  ·have hn : n = 0 := h.rd.nil_of_none.1
   obtain rfl : m = 0 := by omega
   have h2 := h.ow
   subst hn
   rw [List.take_zero]
   have hl := h.len
   rw [List.eq_nil_of_length_eq_zero hl] at h2
   exact h2
  ·rw [flat_take ecell_len]
   exact own_take h.ow hm
 refine h1.kept hg ?_
 have := h.nb
 rcases C with _ | a
 ·exact .inl rfl
 ·exact .inr this
theorem Mg.form (h : Mg W B cB b t C n c cl) : C = none ∨ ∃ g, C = some ⟨g, 0, none⟩ := by
 rcases h.ow.2 with ⟨h', h''⟩ | ⟨g', _, _, h', _⟩
 ·exact .inl (by injection h')
 ·injection h' with h' _ _
  exact .inr ⟨g', h'⟩
theorem Mg.push {y : Er} {k c2 : Nat} {A2 : Option Addr} {W2 : World} (h : Mg W B cB b t C n c cl) (hy : Rd W (fun q => B ≤ q ∧ q ≠ cB ∧ C.map (·.block) ≠ some q) 1 y.A y.n (bs y.d)) (hy1 : y.n ≤ y.m) (hy2 : y.m ≤ maxLen)
  (hk : k = n + 1) (ho : W2.ownsRow B 62 4 (.slice A2 k c2) k (flat ecell cl ++ ecell y)) (hg : W.grownBy W2 (C.map (·.block))) (hat : A2.map (·.block) = C.map (·.block) ∨ A2.map (·.block) = some W.heap.size) :
  Mg (W2.setCell ⟨cB, 2, none⟩ (.slice A2 k c2)) B cB b t A2 (n + 1) c2 (cl ++ [y]) := by
 subst hk
 have hcl := h.bx.lt
 have hg2 : W2.grownBy (W2.setCell ⟨cB, 2, none⟩ (.slice A2 (n + 1) c2)) (some cB) := ⟨rfl, rfl, rfl, by simp [World.setCell], fun k _ hk => Below.heap_setCell _ _ _ k (fun e => hk (by rw [e]))⟩
 have hnb : A2.map (·.block) ≠ some cB := by
  rcases hat with e | e
  ·rw [e]; exact h.nb
  ·rw [e]; intro e2; injection e2 with e2; omega
 refine ⟨(h.bx.grown hg (fun e => h.nb e)).set 2 _, ?_, h.le, hnb, fun z hz => ?_⟩
 ·rw [flat_append, flat_one]
  refine ho.kept hg2 ?_
  rcases A2 with _ | a
  ·exact .inl rfl
  ·exact .inr hnb
 ·have hz' : Rd W (fun q => B ≤ q ∧ q ≠ cB ∧ C.map (·.block) ≠ some q) 1 z.A z.n (bs z.d) ∧ z.n ≤ z.m ∧ z.m ≤ maxLen := by
   rcases List.mem_append.1 hz with hz | hz
   ·exact h.dt z hz
   ·obtain rfl := List.mem_singleton.1 hz
    exact ⟨hy, hy1, hy2⟩
  refine ⟨?_, hz'.2⟩
  have h1 := ((hz'.1.lt (by omega)).grown hg (fun g hg' h2 => h2.1.2.2 hg')).setCell (p := ⟨cB, 2, none⟩) (fun q => q.1.2.1 rfl) (.slice A2 (n + 1) c2)
  refine h1.mono fun q hq => ⟨hq.1.1, hq.1.2.1, ?_⟩
  rcases hat with e | e
  ·rw [e]; exact hq.1.2.2
  ·rw [e]; intro e2; injection e2 with e2; omega
end
def mcut (b : Int) (c : List En) (e : En) : List En := if (e.a - b - 1).toNat < c.length ∧ (c[(e.a - b - 1).toNat]?.map (·.b)) ≠ some e.b then c.take (e.a - b - 1).toNat else c
def mloop (b : Int) : List En × Int → List En → List En × Int
 | s, [] => s
 | s, e :: r => if e.a ≤ b then mloop b s r else if (e.a - b - 1).toNat = (mcut b s.1 e).length then (if 4096 ≤ (mcut b s.1 e).length then (mcut b s.1 e, s.2) else mloop b (mcut b s.1 e ++ [e], e.a) r) else mloop b (mcut b s.1 e, e.a) r
end Go.Proofs.YtmhaahcbmdhinaaGreatDoor
