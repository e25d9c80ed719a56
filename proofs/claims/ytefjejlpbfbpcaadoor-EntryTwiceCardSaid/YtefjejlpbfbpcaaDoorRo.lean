/- Rows of entries of a call's own, with their bytes. -/
import Derived.Test.YtefjejlpbfbpcaaDoorRight
import Derived.Test.YtefjejlpbfbpcaaDoorRow
namespace Go.Proofs.YtefjejlpbfbpcaaDoor
open Go.RowKit
set_option maxRecDepth 100000
set_option linter.unusedVariables false
set_option linter.unusedSimpArgs false
theorem ent_elem : Elem Tryd.prog 39 (.agg #[.int .i64 0, .int .i64 0, .int .i64 0, .slice none 0 0]) 4 48 := by unfold Elem; kernel_rfl
theorem ecell_one (l : List Er) : ∀ u ∈ flat ecell l, u.oneCell' = true := by
  induction l with
  | nil => intro u hu; cases hu
  | cons x l ih =>
    intro u hu
    rw [flat_cons, List.mem_append] at hu
    rcases hu with hu | hu
    · simp only [ecell, List.mem_cons, List.not_mem_nil, or_false] at hu
      rcases hu with rfl | rfl | rfl | rfl <;> rfl
    · exact ih u hu
/-- A literal of one row. -/
theorem Rd.lit4 (w : World) {cs : Array Value} (t : TypeId) {fr : Nat × Nat} (hk : cs.size = 4) : Rd (w.alloc (.cells cs t fr)) T 4 (some ⟨w.heap.size, 0, none⟩) 1 cs.toList :=
  ⟨by simp [hk], fun _ => ⟨_, rfl, trivial, fun j u hu => World.news_of_block (heap_alloc_new w _) j u hu⟩⟩
def DatO (w : World) (B : Nat) (A : Option Addr) (l : List Er) : Prop := ∀ y ∈ l, Rd w (fun b => B ≤ b ∧ A.map (·.block) ≠ some b) 1 y.A y.n (bs y.d) ∧ y.n ≤ y.m ∧ y.m ≤ maxLen
structure Ro (W : World) (B : Nat) (A : Option Addr) (n c : Nat) (l : List Er) : Prop where
  ow : W.ownsRow B 39 4 (.slice A n c) n (flat ecell l)
  dt : DatO W B A l
section
variable {W W' : World} {B n c : Nat} {A : Option Addr} {l : List Er}
theorem Ro.nil (W : World) (B : Nat) : Ro W B none 0 0 [] := ⟨World.ownsRow_nil _ _ _ _, by intro y hy; cases hy⟩
theorem Ro.below (h : Ro W B A n c l) (hb : Below W.heap.size W W') : Ro W' B A n c l := ⟨own_below h.ow hb, fun y hy => ⟨(h.dt y hy).1.below hb, (h.dt y hy).2⟩⟩
theorem Ro.alloc (h : Ro W B A n c l) (o : Obj) : Ro (W.alloc o) B A n c l := h.below ((Below.refl _ _).alloc (Nat.le_refl _) o)
theorem Ro.drew (h : Ro W B A n c l) : Ro W.drew B A n c l := h.below (Below.refl _ _).drew
theorem Ro.rd (h : Ro W B A n c l) : Rd W T 4 A n (flat ecell l) := (Rd.of_own h.ow).any
theorem Ro.dat (h : Ro W B A n c l) : Dat W l := fun y hy => ⟨(h.dt y hy).1.any, (h.dt y hy).2⟩
theorem Ro.dat_from (h : Ro W B A n c l) : ∀ y ∈ l, Rd W (B ≤ ·) 1 y.A y.n (bs y.d) ∧ y.n ≤ y.m ∧ y.m ≤ maxLen := fun y hy => ⟨(h.dt y hy).1.mono fun b hb => hb.1, (h.dt y hy).2⟩
theorem Ro.len (h : Ro W B A n c l) : l.length = n := h.rd.flen ecell_len (by omega)
/-- An entry more, by append. -/
theorem Ro.push {y : Er} {k c2 : Nat} {A2 : Option Addr} {W2 : World} (h : Ro W B A n c l) (hy : Rd W (fun b => B ≤ b ∧ A.map (·.block) ≠ some b) 1 y.A y.n (bs y.d)) (hy1 : y.n ≤ y.m) (hy2 : y.m ≤ maxLen)
    (hk : k = n + 1) (ho : W2.ownsRow B 39 4 (.slice A2 k c2) k (flat ecell l ++ ecell y)) (hg : W.grownBy W2 (A.map (·.block))) (hat : A2.map (·.block) = A.map (·.block) ∨ A2.map (·.block) = some W.heap.size) :
    Ro W2 B A2 (n + 1) c2 (l ++ [y]) := by
  subst hk
  refine ⟨by rw [flat_append, flat_one]; exact ho, fun z hz => ?_⟩
  have hz' : Rd W (fun b => B ≤ b ∧ A.map (·.block) ≠ some b) 1 z.A z.n (bs z.d) ∧ z.n ≤ z.m ∧ z.m ≤ maxLen := by
    rcases List.mem_append.1 hz with hz | hz
    · exact h.dt z hz
    · obtain rfl := List.mem_singleton.1 hz
      exact ⟨hy, hy1, hy2⟩
  refine ⟨?_, hz'.2⟩
  have h1 := (hz'.1.lt (by omega)).grown hg (fun g hg' h2 => h2.1.2 hg')
  refine h1.mono fun b hb => ?_
  refine ⟨hb.1.1, ?_⟩
  rcases hat with e | e
  · rw [e]; exact hb.1.2
  · rw [e]; intro e2; injection e2 with e2; omega
/-- The first m of them. -/
theorem Ro.take {m : Nat} (h : Ro W B A n c l) (hm : m ≤ n) (hA : A = none ∨ ∃ g, A = some ⟨g, 0, none⟩) : Ro W B A m c (l.take m) := by
  refine ⟨?_, fun z hz => h.dt z (List.mem_of_mem_take hz)⟩
  rcases hA with rfl | ⟨g, rfl⟩
  · have hn : n = 0 := h.rd.nil_of_none.1
    obtain rfl : m = 0 := by omega
    have := h.ow
    subst hn
    rw [List.take_zero]
    have hl := h.len
    rw [List.eq_nil_of_length_eq_zero hl] at this
    exact this
  · rw [flat_take ecell_len]
    exact own_take h.ow hm
theorem Ro.form (h : Ro W B A n c l) : A = none ∨ ∃ g, A = some ⟨g, 0, none⟩ := by
  rcases h.ow.2 with ⟨h', h''⟩ | ⟨g', _, _, h', _⟩
  · exact .inl (by injection h')
  · injection h' with h' _ _
    exact .inr ⟨g', h'⟩
end
end Go.Proofs.YtefjejlpbfbpcaaDoor
