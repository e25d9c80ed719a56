/- slices.Sort and slices.Compact at []int, over a row of the call's own, in our words. -/
import Derived.Test.YtodjjcnidgmkmaaDoorRows
import Derived.Test.YtodjjcnidgmkmaaDoorShelf
import Derived.Test.YtodjjcnidgmkmaaDoorFlat
import Derived.Sort.OwnSortedInts
namespace Go.Proofs.YtodjjcnidgmkmaaDoor
open Go.RowKit Go.Sort
set_option linter.unusedVariables false
set_option linter.unusedSimpArgs false
def SortPost (W : World) (B : Nat) (A : Option Addr) (n c : Nat) (zs : List Int) (e : Ending) (w' : World) : Prop :=
  e = .returned (.tuple #[]) ∧ w'.ownsRow B 3 1 (.slice A n c) n (ii zs) ∧ W.grownBy w' (A.map (·.block))
theorem sort_any (B : Nat) (A : Option Addr) (n c : Nat) (zs : List Int) (w : World) (h : w.ownsRow B 3 1 (.slice A n c) n (ii zs)) (hn : n ≤ 1000000) :
    Calls Tryd.prog 27 #[.slice A n c] w (SortPost w B A n c (zs.mergeSort fun x y => decide (x ≤ y))) := by
  have hl : zs.length = n := by have := h.1; simpa [ii] using this
  rcases Nat.eq_zero_or_pos n with h0 | h0
  · subst h0
    have hz : zs = [] := List.eq_nil_of_length_eq_zero hl
    subst hz
    refine (Tryd.slices_Sort_int_none A c w).mono ?_
    rintro e w' ⟨rfl, rfl⟩
    exact ⟨rfl, by simpa using h, World.grownBy.refl _ _⟩
  · rcases h.2 with ⟨h1, h2⟩ | ⟨g, cap, cur, hv, hbase, hb, h1, h2, h3, h4⟩
    · omega
    · injection hv with hv1 _ hv3
      subst hv1 hv3
      subst hl
      have hH : Holds (Value.int .i64) w g 0 zs.toArray := holds_of_blockI hb (by simpa [ii] using h4)
      refine (Tryd.slices_Sort_int g 0 c zs w hH (Array.getElem?_eq_some_iff.1 hb).1 (by omega)).mono ?_
      rintro e w' ⟨rfl, nn, os, rfl⟩
      exact ⟨rfl, ownsRow_sortedI (by simp) hbase hb h1 h2 h3, grownBy_sortedI _⟩
def CompactPost (W : World) (B : Nat) (A : Option Addr) (c : Nat) (zs : List Int) (e : Ending) (w' : World) : Prop :=
  ∃ k, e = .returned (.slice A k c) ∧ Rd w' (B ≤ ·) 1 A k (ii zs) ∧ W.grownBy w' (A.map (·.block))
theorem compact_any (B : Nat) (A : Option Addr) (n c : Nat) (zs : List Int) (w : World) (h : w.ownsRow B 3 1 (.slice A n c) n (ii zs)) (hn : n ≤ 1000000) :
    Calls Tryd.prog 28 #[.slice A n c] w (CompactPost w B A c (Lib.compact zs)) := by
  have hl : zs.length = n := by have := h.1; simpa [ii] using this
  rcases Nat.eq_zero_or_pos n with h0 | h0
  · subst h0
    have hz : zs = [] := List.eq_nil_of_length_eq_zero hl
    subst hz
    refine (Tryd.slices_Compact_int_empty A c w).mono ?_
    rintro e w' ⟨rfl, rfl⟩
    exact ⟨0, rfl, ⟨rfl, fun h => absurd h (by omega)⟩, World.grownBy.refl _ _⟩
  · rcases h.2 with ⟨h1, h2⟩ | ⟨g, cap, cur, hv, hbase, hb, h1, h2, h3, h4⟩
    · omega
    · injection hv with hv1 _ hv3
      subst hv1 hv3
      subst hl
      have hH : Holds (Value.int .i64) w g 0 zs.toArray := holds_of_blockI hb (by simpa [ii] using h4)
      refine (Tryd.slices_Compact_int g 0 c zs w hH (by omega) h1).mono ?_
      rintro e w' ⟨rfl, q, rfl⟩
      have hlen : (Lib.compact zs).length ≤ zs.length := by
        unfold Lib.compact Lib.compactUpTo
        rw [List.length_map]
        have := List.length_filter_le (Lib.keeps zs.toArray) (List.range zs.length)
        simpa using this
      have e1 : (Lib.compact zs ++ List.replicate (zs.length - (Lib.compact zs).length) 0).length = zs.length := by simp; omega
      have ho := ownsRow_sortedI (n := q) (os := #[]) (ss := zs) e1 hbase hb h1 h2 h3
      have hgr := grownBy_sortedI (w := w) (g := g) (n := q) (os := #[]) (Lib.compact zs ++ List.replicate (zs.length - (Lib.compact zs).length) 0).toArray
      rw [grow_empty] at ho hgr
      refine ⟨_, rfl, ?_, hgr⟩
      have hr := (Rd.of_own ho).take (k := (Lib.compact zs).length) hlen
      have e2 : ((Lib.compact zs ++ List.replicate (zs.length - (Lib.compact zs).length) 0).map (Value.int .i64)).take ((Lib.compact zs).length * 1) = ii (Lib.compact zs) := by
        rw [List.map_append, Nat.mul_one, List.take_left' (by simp)]
        rfl
      rw [e2] at hr
      exact hr
/-- Of numbers in order the compaction is each number once, in order. -/
theorem compactUpTo_sorted (zs : List Int) (hs : zs.Pairwise (· ≤ ·)) : ∀ m, m ≤ zs.length → (Lib.compactUpTo zs.toArray m).Pairwise (· < ·) ∧ (∀ z, z ∈ Lib.compactUpTo zs.toArray m ↔ z ∈ zs.take m) ∧ ∀ z ∈ Lib.compactUpTo zs.toArray m, ∀ j, m - 1 ≤ j → j < zs.length → z ≤ zs.getD j 0 := by
  have hle : ∀ i j, i ≤ j → j < zs.length → zs.getD i 0 ≤ zs.getD j 0 := by
    intro i j hij hj
    rcases Nat.lt_or_ge i j with hlt | hge
    · have := List.pairwise_iff_getElem.1 hs i j (by omega) hj hlt
      rw [List.getD_eq_getElem?_getD, List.getD_eq_getElem?_getD, List.getElem?_eq_getElem (by omega), List.getElem?_eq_getElem hj]
      exact this
    · obtain rfl : i = j := by omega
      exact Int.le_refl _
  have hget : ∀ j, zs.toArray[j]! = zs.getD j 0 := by
    intro j
    rcases Nat.lt_or_ge j zs.length with h | h
    · rw [getElem!_pos _ j (by simpa using h), List.getD_eq_getElem?_getD, List.getElem?_eq_getElem h]
      simp
    · rw [getElem!_neg _ j (by simpa using h), List.getD_eq_getElem?_getD, List.getElem?_eq_none h]
      rfl
  intro m
  induction m with
  | zero => intro _; exact ⟨by simp [Lib.compactUpTo], by simp [Lib.compactUpTo], by simp [Lib.compactUpTo]⟩
  | succ m ih =>
    intro hm
    obtain ⟨h1, h2, h3⟩ := ih (by omega)
    rw [Lib.compactUpTo_succ]
    have htake : zs.take (m + 1) = zs.take m ++ [zs.getD m 0] := by
      rw [List.take_succ_eq_append_getElem (by omega), List.getD_eq_getElem?_getD, List.getElem?_eq_getElem (by omega)]
      rfl
    by_cases hk : Lib.keeps zs.toArray m = true
    · rw [if_pos hk, hget]
      have hlt : ∀ z ∈ Lib.compactUpTo zs.toArray m, z < zs.getD m 0 := by
        intro z hz
        have hm0 : 0 < m := by
          rcases Nat.eq_zero_or_pos m with h0 | h0
          · subst h0; simp [Lib.compactUpTo] at hz
          · exact h0
        have hz1 := h3 z hz (m - 1) (by omega) (by omega)
        have hne : zs.getD m 0 ≠ zs.getD (m - 1) 0 := by
          unfold Lib.keeps at hk
          rw [decide_eq_true_eq] at hk
          rcases hk with hk | hk
          · omega
          · rwa [hget, hget] at hk
        have := hle (m - 1) m (by omega) (by omega)
        omega
      refine ⟨?_, ?_, ?_⟩
      · rw [List.pairwise_append]
        exact ⟨h1, by simp, fun z hz y hy => by obtain rfl := List.mem_singleton.1 hy; exact hlt z hz⟩
      · intro z
        rw [List.mem_append, h2 z, htake, List.mem_append]
      · intro z hz j hj1 hj2
        rcases List.mem_append.1 hz with hz | hz
        · have := hlt z hz
          have := hle m j (by omega) hj2
          omega
        · obtain rfl := List.mem_singleton.1 hz
          exact hle m j (by omega) hj2
    · rw [if_neg hk, List.append_nil]
      have hm0 : 0 < m := by
        rcases Nat.eq_zero_or_pos m with h0 | h0
        · subst h0; simp [Lib.keeps] at hk
        · exact h0
      have heq : zs.getD m 0 = zs.getD (m - 1) 0 := by
        unfold Lib.keeps at hk
        rw [decide_eq_true_eq] at hk
        by_cases hq : zs.getD m 0 = zs.getD (m - 1) 0
        · exact hq
        · exact absurd (.inr (by rw [hget, hget]; exact hq)) hk
      refine ⟨h1, ?_, fun z hz j hj1 hj2 => h3 z hz j (by omega) hj2⟩
      intro z
      rw [h2 z, htake, List.mem_append]
      constructor
      · exact .inl
      · rintro (h | h)
        · exact h
        · obtain rfl := List.mem_singleton.1 h
          rw [heq]
          have hx : zs.getD (m - 1) 0 = zs[m - 1]'(by omega) := by rw [List.getD_eq_getElem?_getD, List.getElem?_eq_getElem (by omega)]; rfl
          rw [hx]
          exact List.mem_take_iff_getElem.2 ⟨m - 1, by omega, rfl⟩
theorem compact_sorted (zs : List Int) : (Lib.compact (zs.mergeSort fun x y => decide (x ≤ y))).Pairwise (· < ·) ∧ ∀ z, z ∈ Lib.compact (zs.mergeSort fun x y => decide (x ≤ y)) ↔ z ∈ zs := by
  have hp := List.pairwise_mergeSort (le := fun x y : Int => decide (x ≤ y)) (fun a b c h1 h2 => by simp at *; omega) (fun a b => by simp; omega) zs
  have hp' : (zs.mergeSort fun x y => decide (x ≤ y)).Pairwise (· ≤ ·) := hp.imp (fun h => by simpa using h)
  obtain ⟨h1, h2, _⟩ := compactUpTo_sorted _ hp' _ (Nat.le_refl _)
  refine ⟨h1, fun z => ?_⟩
  rw [Lib.compact, h2 z, List.take_length, List.mem_mergeSort]
end Go.Proofs.YtodjjcnidgmkmaaDoor
