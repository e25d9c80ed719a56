/- slices.Clone at items. -/
import Derived.Test.YtckpinnnmafdgaaDoorFind
import Derived.Test.YtckpinnnmafdgaaDoorClone
namespace Go.Proofs.YtckpinnnmafdgaaDoor
open Go.RowKit
set_option linter.unusedVariables false
set_option linter.unusedSimpArgs false
set_option maxRecDepth 100000
theorem itm_elem : Elem Tryd.prog 32 (.agg #[.int .i64 0, .int .i64 0, .int .i64 0, .slice none 0 0]) 4 48 := by unfold Elem; kernel_rfl
theorem eqlI (w : World) (A : Option Addr) (n c : Nat) : (binOp .eql 40 (.slice A n c) (.slice none 0 0)).run Tryd.prog w = .ok (.bool A.isNone) w := Lib.run_eql_slice_nil w 40 32 A n c 0 0 Tryd.underlying40
attribute [local go_sem] eqlI
theorem icell_one (l : List Ic) : ∀ u ∈ flat icell l, u.oneCell' = true := by
  induction l with
  | nil => intro u hu; cases hu
  | cons x l ih =>
    intro u hu
    rw [flat_cons] at hu
    rcases List.mem_append.1 hu with hu | hu
    · simp only [icell, List.mem_cons, List.not_mem_nil, or_false] at hu
      rcases hu with rfl | rfl | rfl | rfl <;> rfl
    · exact ih u hu
def CloneIPost (W : World) (n : Nat) (xs : List Value) (e : Ending) (w' : World) : Prop := ∃ A' c', e = .returned (.slice A' n c') ∧ w'.ownsRow W.heap.size 32 4 (.slice A' n c') n xs ∧ Below W.heap.size W w'
theorem cloneI_any (A : Option Addr) (n c : Nat) (xs : List Value) (w : World) {ok : Nat → Prop} (hr : Rd w ok 4 A n xs) (h1 : ∀ u ∈ xs, u.oneCell' = true) (hn : n ≤ 1000000) :
    Calls Tryd.prog 29 #[.slice A n c] w (CloneIPost w n xs) := by
  cases A with
  | none =>
    obtain ⟨rfl, rfl⟩ := hr.nil_of_none
    go_enter Tryd.func29, Tryd.ntmps29
    go_wp2_with fail
    go_ret
    exact ⟨_, _, rfl, ⟨by simp, .inl ⟨rfl, rfl⟩⟩, Below.refl _ _⟩
  | some ad =>
    go_enter Tryd.func29, Tryd.ntmps29
    go_wp2_with (at_builtin; refine wpList_append_any _ Tryd.underlying40 itm_elem rfl (by omega) rfl rfl rfl (own_new w w.heap.size 32 4 (Nat.le_refl _)) rfl (hr.alloc _) h1 (by omega) (by simp) (Nat.zero_add _) (List.nil_append _) ?_; intro A1 c1 w1 hown1 hg1 hat1)
    go_ret
    exact ⟨_, _, rfl, hown1, ((Below.refl _ _).alloc (Nat.le_refl _) _).grown hg1 (by simp) (by simp)⟩
end Go.Proofs.YtckpinnnmafdgaaDoor
