/- Walk of the log's back. (Printed by mkback.py.)
   A log of a call's own, in a box: what Merge works on.
   Walk of entry.Merge, where all goes well. (Printed by mkmerge.py.)
   Walk of entry.Merge up to its end, whatever the log becomes. (Printed by mkmergen.py.)
   Walks of entry.Term, entry.Compact. -/
import Derived.Test.YtmhaahcbmdhinaaGreatDoorKW7
import Derived.WalkMore
import Derived.ScopeJumps
import Derived.Test.YtmhaahcbmdhinaaGreatDoorKW10
import Derived.Test.YtmhaahcbmdhinaaGreatDoorKW12
import Derived.Test.YtmhaahcbmdhinaaGreatDoorKW11
namespace Go.Proofs.YtmhaahcbmdhinaaGreatDoor
open Go.RowKit
set_option maxRecDepth 1000000
set_option linter.unusedVariables false
set_option linter.unusedSimpArgs false
def intIn9 : Value → Int | .int _ q => q | _ => 0
def AnyInt (W : World) (e : Ending) (w' : World) : Prop := ∃ z : Int, e = .returned (.int .i64 z) ∧ Below W.heap.size W w'
end Go.Proofs.YtmhaahcbmdhinaaGreatDoor

namespace Go.Proofs.YtmhaahcbmdhinaaGreatDoor
open Go.RowKit
set_option maxRecDepth 100000
set_option linter.unusedVariables false
set_option linter.unusedSimpArgs false
structure Mg (W : World) (B cB : Nat) (b t : Int) (C : Option Addr) (n c : Nat) (cl : List Er) : Prop where
  bx : Bx W cB #[.int .i64 b, .int .i64 t, .slice C n c]
  ow : W.ownsRow B 62 4 (.slice C n c) n (flat ecell cl)
  le : B ≤ cB
  nb : C.map (·.block) ≠ some cB
  dt : ∀ y ∈ cl, Rd W (fun q => B ≤ q ∧ q ≠ cB ∧ C.map (·.block) ≠ some q) 1 y.A y.n (bs y.d) ∧ y.n ≤ y.m ∧ y.m ≤ maxLen
section
variable {W W' : World} {B cB n c : Nat} {b t : Int} {C : Option Addr} {cl : List Er}
theorem Mg.below (h : Mg W B cB b t C n c cl) (hb : Below W.heap.size W W') : Mg W' B cB b t C n c cl :=
  ⟨h.bx.below hb, own_below h.ow hb, h.le, h.nb, fun y hy => ⟨(h.dt y hy).1.below hb, (h.dt y hy).2⟩⟩
theorem Mg.rd (h : Mg W B cB b t C n c cl) : Rd W T 4 C n (flat ecell cl) := (Rd.of_own h.ow).any
theorem Mg.dat (h : Mg W B cB b t C n c cl) : Dat W cl := fun y hy => ⟨(h.dt y hy).1.any, (h.dt y hy).2⟩
theorem Mg.len (h : Mg W B cB b t C n c cl) : cl.length = n := h.rd.flen ecell_len (by omega)
theorem Mg.wel (h : Mg W B cB b t C n c cl) (hw : ∀ y ∈ cl, W64 y) : Wel cl := fun y hy => ⟨hw y hy, ((h.dt y hy).1.blen).symm⟩
theorem Mg.cut {m : Nat} (h : Mg W B cB b t C n c cl) (hm : m ≤ n) (hC : C = none ∨ ∃ g, C = some ⟨g, 0, none⟩) : Mg (W.setCell ⟨cB, 2, none⟩ (.slice C m c)) B cB b t C m c (cl.take m) := by
  have hg : W.grownBy (W.setCell ⟨cB, 2, none⟩ (.slice C m c)) (some cB) := ⟨rfl, rfl, rfl, by simp [World.setCell], fun k _ hk => Below.heap_setCell _ _ _ k (fun e => hk (by rw [e]))⟩
  refine ⟨h.bx.set 2 _, ?_, h.le, h.nb, fun y hy => ⟨(h.dt y (List.mem_of_mem_take hy)).1.setCell (fun q => q.2.1 rfl) _, (h.dt y (List.mem_of_mem_take hy)).2⟩⟩
  have h1 : W.ownsRow B 62 4 (.slice C m c) m (flat ecell (cl.take m)) := by
    rcases hC with rfl | ⟨g, rfl⟩
    · have hn : n = 0 := h.rd.nil_of_none.1
      obtain rfl : m = 0 := by omega
      have h2 := h.ow
      subst hn
      rw [List.take_zero]
      have hl := h.len
      rw [List.eq_nil_of_length_eq_zero hl] at h2
      exact h2
    · rw [flat_take ecell_len]
      exact own_take h.ow hm
  refine h1.kept hg ?_
  have := h.nb
  rcases C with _ | a
  · exact .inl rfl
  · exact .inr this
theorem Mg.form (h : Mg W B cB b t C n c cl) : C = none ∨ ∃ g, C = some ⟨g, 0, none⟩ := by
  rcases h.ow.2 with ⟨h', h''⟩ | ⟨g', _, _, h', _⟩
  · exact .inl (by injection h')
  · injection h' with h' _ _
    exact .inr ⟨g', h'⟩
/-- An entry more, by append, and stored. -/
theorem Mg.push {y : Er} {k c2 : Nat} {A2 : Option Addr} {W2 : World} (h : Mg W B cB b t C n c cl) (hy : Rd W (fun q => B ≤ q ∧ q ≠ cB ∧ C.map (·.block) ≠ some q) 1 y.A y.n (bs y.d)) (hy1 : y.n ≤ y.m) (hy2 : y.m ≤ maxLen)
    (hk : k = n + 1) (ho : W2.ownsRow B 62 4 (.slice A2 k c2) k (flat ecell cl ++ ecell y)) (hg : W.grownBy W2 (C.map (·.block))) (hat : A2.map (·.block) = C.map (·.block) ∨ A2.map (·.block) = some W.heap.size) :
    Mg (W2.setCell ⟨cB, 2, none⟩ (.slice A2 k c2)) B cB b t A2 (n + 1) c2 (cl ++ [y]) := by
  subst hk
  have hcl := h.bx.lt
  have hg2 : W2.grownBy (W2.setCell ⟨cB, 2, none⟩ (.slice A2 (n + 1) c2)) (some cB) := ⟨rfl, rfl, rfl, by simp [World.setCell], fun k _ hk => Below.heap_setCell _ _ _ k (fun e => hk (by rw [e]))⟩
  have hnb : A2.map (·.block) ≠ some cB := by
    rcases hat with e | e
    · rw [e]; exact h.nb
    · rw [e]; intro e2; injection e2 with e2; omega
  refine ⟨(h.bx.grown hg (fun e => h.nb e)).set 2 _, ?_, h.le, hnb, fun z hz => ?_⟩
  · rw [flat_append, flat_one]
    refine ho.kept hg2 ?_
    rcases A2 with _ | a
    · exact .inl rfl
    · exact .inr hnb
  · have hz' : Rd W (fun q => B ≤ q ∧ q ≠ cB ∧ C.map (·.block) ≠ some q) 1 z.A z.n (bs z.d) ∧ z.n ≤ z.m ∧ z.m ≤ maxLen := by
      rcases List.mem_append.1 hz with hz | hz
      · exact h.dt z hz
      · obtain rfl := List.mem_singleton.1 hz
        exact ⟨hy, hy1, hy2⟩
    refine ⟨?_, hz'.2⟩
    have h1 := ((hz'.1.lt (by omega)).grown hg (fun g hg' h2 => h2.1.2.2 hg')).setCell (p := ⟨cB, 2, none⟩) (fun q => q.1.2.1 rfl) (.slice A2 (n + 1) c2)
    refine h1.mono fun q hq => ⟨hq.1.1, hq.1.2.1, ?_⟩
    rcases hat with e | e
    · rw [e]; exact hq.1.2.2
    · rw [e]; intro e2; injection e2 with e2; omega
end
/-- What Merge's loop makes of a log and its last index. -/
def mcut (b : Int) (c : List En) (e : En) : List En := if (e.a - b - 1).toNat < c.length ∧ (c[(e.a - b - 1).toNat]?.map (·.b)) ≠ some e.b then c.take (e.a - b - 1).toNat else c
def mloop (b : Int) : List En × Int → List En → List En × Int
  | s, [] => s
  | s, e :: r => if e.a ≤ b then mloop b s r else if (e.a - b - 1).toNat = (mcut b s.1 e).length then (if 4096 ≤ (mcut b s.1 e).length then (mcut b s.1 e, s.2) else mloop b (mcut b s.1 e ++ [e], e.a) r) else mloop b (mcut b s.1 e, e.a) r
end Go.Proofs.YtmhaahcbmdhinaaGreatDoor

namespace Go.Proofs.YtmhaahcbmdhinaaGreatDoor
open Go.RowKit
set_option maxRecDepth 100000
set_option linter.unusedVariables false
set_option linter.unusedSimpArgs false
attribute [local go_sem ↓] Go.wp_at_zero Go.wp_at_succ
def MergeYes (W : World) (b t last : Int) (l : List En) (e : Ending) (w' : World) : Prop :=
  ∃ A n c L', e = .returned (.tuple #[.agg #[.int .i64 b, .int .i64 t, .slice A n c], .int .i64 last, .bool true]) ∧ Rd w' T 4 A n (flat ecell L') ∧ Dat w' L' ∧ L'.map en = l ∧ n ≤ c ∧ Below W.heap.size W w'
end Go.Proofs.YtmhaahcbmdhinaaGreatDoor

namespace Go.Proofs.YtmhaahcbmdhinaaGreatDoor
open Go.RowKit
set_option maxRecDepth 100000
set_option linter.unusedVariables false
set_option linter.unusedSimpArgs false
attribute [local go_sem ↓] Go.wp_at_zero Go.wp_at_succ
/-- The log as it was. -/
def MergeBack (W : World) (b t : Int) (l : List En) (e : Ending) (w' : World) : Prop :=
  ∃ A n c L' k, e = .returned (.tuple #[.agg #[.int .i64 b, .int .i64 t, .slice A n c], .int .i64 k, .bool false]) ∧ Rd w' (W.heap.size ≤ ·) 4 A n (flat ecell L') ∧ DatB w' W.heap.size L' ∧ L'.map en = l ∧ n ≤ c ∧ Below W.heap.size W w'
def MergeYes2 (W : World) (b t last : Int) (l : List En) (e : Ending) (w' : World) : Prop :=
  ∃ A n c L', e = .returned (.tuple #[.agg #[.int .i64 b, .int .i64 t, .slice A n c], .int .i64 last, .bool true]) ∧ Rd w' (W.heap.size ≤ ·) 4 A n (flat ecell L') ∧ DatB w' W.heap.size L' ∧ L'.map en = l ∧ n ≤ c ∧ Below W.heap.size W w'
def MergeFin (W : World) (b t : Int) (l0 : List En) (r : List En × Int) (e : Ending) (w' : World) : Prop :=
  if lmay b t r.1 = true then MergeYes2 W b t r.2 r.1 e w' else MergeBack W b t l0 e w'
end Go.Proofs.YtmhaahcbmdhinaaGreatDoor

namespace Go.Proofs.YtmhaahcbmdhinaaGreatDoor
open Go.RowKit
set_option maxRecDepth 100000
set_option linter.unusedVariables false
set_option linter.unusedSimpArgs false
set_option maxHeartbeats 1600000 in
theorem Term_any (b t ix : Int) (A : Option Addr) (n c : Nat) (L : List Er) (w : World) {ok : Nat → Prop} (hr : Rd w ok 4 A n (flat ecell L)) (hw : Wel L) (hm : lmay b t (L.map en) = true) (hn : n ≤ 1000000) :
    Calls Tryz.prog 119 #[.agg #[.int .i64 b, .int .i64 t, .slice A n c], .int .i64 ix] w (TermPost w (termL b t (L.map en) ix)) := by
  have hmm := fun ob => may_any b t A n c L (w.alloc ob) (hr.alloc ob) hw hn
  have hl := fun W (hb : Below w.heap.size w W) => term_any b t ix A n c L W (hr.below hb) hm hn
  rw [hm] at hmm
  generalize termL b t (L.map en) ix = x at hl
  have Bb := Lib.hid (Bx.new w #[.int .i64 b, .int .i64 t, .slice A n c] 38 rfl)
  have Hmm := Lib.hid hmm
  have Hl := Lib.hid hl
  clear hmm hl hr hw hm
  go_enter Tryz.func119, Tryz.ntmps119
  go_wp2_with fail
  refine (Hmm.out _).mono ?_
  rintro e w2 ⟨rfl, hb2⟩
  obtain ⟨k0, k1, k2, -⟩ := (Bb.out.below hb2).c3
  have hb3 := ((Below.refl w.heap.size w).alloc (Nat.le_refl _) (.cells #[.int .i64 b, .int .i64 t, .slice A n c] 38)).trans (hb2.mono (by simp))
  clear hb2
  go_wp2_with fail
  refine (Hl.out _ hb3).mono ?_
  rintro e w3 ⟨rfl, hb4⟩
  go_wp2_with fail
  go_ret2
  exact ⟨rfl, hb3.trans (hb4.mono hb3.size)⟩
end Go.Proofs.YtmhaahcbmdhinaaGreatDoor

