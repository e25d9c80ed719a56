/- slices.Sort at []int, over a row of the call's own, in our words. -/
import Derived.Test.YtedcjakgdoiomaaDoorRows
import Derived.Test.YtedcjakgdoiomaaDoorShelf
import Derived.Test.YtedcjakgdoiomaaDoorFlat
import Derived.Sort.OwnSortedInts
namespace Go.Proofs.YtedcjakgdoiomaaDoor
open Go.RowKit Go.Sort
set_option maxRecDepth 100000
set_option linter.unusedVariables false
set_option linter.unusedSimpArgs false
def SortPost (W : World) (B : Nat) (A : Option Addr) (n c : Nat) (zs : List Int) (e : Ending) (w' : World) : Prop :=
  e = .returned (.tuple #[]) ∧ w'.ownsRow B 3 1 (.slice A n c) n (ii zs) ∧ W.grownBy w' (A.map (·.block))
theorem sort_any (B : Nat) (A : Option Addr) (n c : Nat) (zs : List Int) (w : World) (h : w.ownsRow B 3 1 (.slice A n c) n (ii zs)) (hn : n ≤ 1000000) :
    Calls Tryd.prog 27 #[.slice A n c] w (SortPost w B A n c (zs.mergeSort fun x y => decide (x ≤ y))) := by
  have hl : zs.length = n := by have := h.1; simpa [ii] using this
  rcases Nat.eq_zero_or_pos n with h0 | h0
  · subst h0
    have hz : zs = [] := List.eq_nil_of_length_eq_zero hl
    subst hz
    refine (Tryd.slices_Sort_int_none A c w).mono ?_
    rintro e w' ⟨rfl, rfl⟩
    exact ⟨rfl, by simpa using h, World.grownBy.refl _ _⟩
  · rcases h.2 with ⟨h1, h2⟩ | ⟨g, cap, cur, hv, hbase, hb, h1, h2, h3, h4⟩
    · omega
    · injection hv with hv1 _ hv3
      subst hv1 hv3
      subst hl
      have hH : Holds (Value.int .i64) w g 0 zs.toArray := holds_of_blockI hb (by simpa [ii] using h4)
      refine (Tryd.slices_Sort_int g 0 c zs w hH (Array.getElem?_eq_some_iff.1 hb).1 (by omega)).mono ?_
      rintro e w' ⟨rfl, nn, os, rfl⟩
      exact ⟨rfl, ownsRow_sortedI (by simp) hbase hb h1 h2 h3, grownBy_sortedI _⟩
end Go.Proofs.YtedcjakgdoiomaaDoor
