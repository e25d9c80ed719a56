/- entry.From and the document's From: one contract each. -/
import Derived.Test.YtefjejlpbfbpcaaDoorFromR
namespace Go.Proofs.YtefjejlpbfbpcaaDoor
open Go.RowKit
set_option maxRecDepth 100000
set_option linter.unusedVariables false
set_option linter.unusedSimpArgs false
theorem rgt_ok {ix : Int} : ∀ {l : List En} {tm : Int} {i : Nat}, rgt ix tm i l = true → ∀ e ∈ l, 1 ≤ e.a ∧ e.a ≤ 1099511627776 ∧ 1 ≤ e.b ∧ e.b ≤ 1099511627776 ∧ 0 ≤ e.c ∧ e.c ≤ 2 ∧ e.d.length ≤ 4096
  | [], _, _, _, e, he => by cases he
  | x :: l, tm, i, h, e, he => by
    have h' : (okE ix tm i x && rgt ix x.b (i + 1) l) = true := h
    rw [Bool.and_eq_true] at h'
    rcases List.mem_cons.1 he with rfl | he
    · have := okE_iff.1 h'.1
      omega
    · exact rgt_ok h'.2 e he
theorem lmay_wt {b t : Int} {L : List Er} (h : lmay b t (L.map en) = true) (hw : Wel L) : ∀ x ∈ L, Wt x := by
  intro x hx
  have h1 := rgt_ok (lmay_iff.1 h).2.2 (en x) (List.mem_map.2 ⟨x, hx, rfl⟩)
  have h2 := (hw x hx).2
  have e1 : (en x).a = x.a := rfl
  have e2 : (en x).b = x.b := rfl
  have e3 : (en x).c = x.c := rfl
  have e4 : (en x).d = x.d := rfl
  rw [e1, e2, e3, e4] at h1
  unfold Wt
  omega
theorem from_any (b t ix most : Int) (A : Option Addr) (n c : Nat) (L : List Er) (w : World) (hr : Rd w T 4 A n (flat ecell L)) (hd : Dat w L) (hs : ∀ x ∈ L, x.n ≤ 1000000) (hw : Wel L) (hn : n ≤ 1000000) (hnc : n ≤ c) (hcm : c ≤ maxLen) :
    Calls Tryd.prog 15 #[.agg #[.int .i64 b, .int .i64 t, .slice A n c], .int .i64 ix, .int .i64 most] w (FromPost w (fromL b t (L.map en) ix most)) := by
  by_cases hc : lmay b t (L.map en) = true ∧ b < ix ∧ ix ≤ lstA b (L.map en) ∧ 1 ≤ most
  · obtain ⟨h1, h2, h3, h4⟩ := hc
    have e : fromL b t (L.map en) ix most = ((L.map en).drop (ix - b - 1).toNat).take most.toNat := by unfold fromL; rw [if_pos ⟨h1, h2⟩]
    rw [e]
    exact from_some b t ix most A n c L w hr hd hs hw hn hnc hcm h1 h2 h3 h4
  · have hq : lmay b t (L.map en) = true ∨ lmay b t (L.map en) = false := by cases lmay b t (L.map en) <;> simp
    have hcase : lmay b t (L.map en) = false ∨ (lmay b t (L.map en) = true ∧ (ix ≤ b ∨ (b < ix ∧ (lstA b (L.map en) < ix ∨ (ix ≤ lstA b (L.map en) ∧ most < 1))))) := by
      rcases hq with hq | hq
      · right
        refine ⟨hq, ?_⟩
        by_cases h1 : ix ≤ b
        · exact .inl h1
        · right
          refine ⟨by omega, ?_⟩
          by_cases h2 : lstA b (L.map en) < ix
          · exact .inl h2
          · refine .inr ⟨by omega, ?_⟩
            by_cases h3 : most < 1
            · exact h3
            · exact absurd ⟨hq, by omega, by omega, by omega⟩ hc
      · exact .inl hq
    refine (from_nil b t ix most A n c L w hr hw hn hcase).mono ?_
    rintro e w' ⟨rfl, hb⟩
    refine ⟨none, 0, 0, [], rfl, Ro.nil _ _, ?_, hb⟩
    rw [fromL_nil (fun h => lmay_last h) ?_]
    · rfl
    · rcases hcase with h | ⟨_, h | ⟨_, h | ⟨_, h⟩⟩⟩
      · exact .inl h
      · exact .inr (.inl h)
      · exact .inr (.inr (.inl h))
      · exact .inr (.inr (.inr h))
def fromLR (b t : Int) (L : List Er) (ix most : Int) : List Er := if lmay b t (L.map en) = true ∧ b < ix then ((L.drop (ix - b - 1).toNat).take most.toNat) else []
theorem fromLR_en (b t : Int) (L : List Er) (ix most : Int) : (fromLR b t L ix most).map en = fromL b t (L.map en) ix most := by
  unfold fromLR fromL
  split
  · rw [List.map_take, List.map_drop]
  · rfl
theorem fromLR_sub (b t : Int) (L : List Er) (ix most : Int) : ∀ x ∈ fromLR b t L ix most, x ∈ L := by
  unfold fromLR
  intro x hx
  split at hx
  · exact List.mem_of_mem_drop (List.mem_of_mem_take hx)
  · cases hx
theorem fromR_any (b t ix most : Int) (A : Option Addr) (n c : Nat) (L : List Er) (w : World) (hr : Rd w T 4 A n (flat ecell L)) (hw : Wel L) (hn : n ≤ 1000000) (hix : ix ≤ 9223372036854775807) :
    Calls Tryd.prog 16 #[.agg #[.int .i64 b, .int .i64 t, .slice A n c], .int .i64 ix, .int .i64 most] w (FromRPost w (fromLR b t L ix most)) := by
  unfold fromLR
  by_cases hc : lmay b t (L.map en) = true ∧ b < ix
  · rw [if_pos hc]
    exact fromR_some b t ix most A n c L w hr hw hn hc.1 hc.2 hix
  · rw [if_neg hc]
    have hq : lmay b t (L.map en) = true ∨ lmay b t (L.map en) = false := by cases lmay b t (L.map en) <;> simp
    refine (fromR_nil b t ix most A n c L w hr hw hn ?_).mono ?_
    · rcases hq with hq | hq
      · right
        refine ⟨hq, ?_⟩
        by_cases h1 : ix ≤ b
        · exact h1
        · exact absurd ⟨hq, by omega⟩ hc
      · exact .inl hq
    · rintro e w' ⟨rfl, hb⟩
      exact ⟨none, 0, 0, rfl, Rd.none_, hb⟩
/-- Entries that can be written as bytes, plainly. -/
def WtE (e : En) : Prop := 0 ≤ e.a ∧ e.a ≤ 9223372036854775807 ∧ 0 ≤ e.b ∧ e.b ≤ 9223372036854775807 ∧ 0 ≤ e.c ∧ e.c ≤ 9223372036854775807 ∧ e.d.length ≤ 1000000
theorem wt_of {w : World} {l : List En} {L : List Er} (hl : ∀ e ∈ l, WtE e) (he : L.map en = l) (hd : Dat w L) : ∀ x ∈ L, Wt x := by
  intro x hx
  have h1 := hl (en x) (by rw [← he]; exact List.mem_map.2 ⟨x, hx, rfl⟩)
  have h2 := (hd x hx).1.blen
  have e1 : (en x).a = x.a := rfl
  have e2 : (en x).b = x.b := rfl
  have e3 : (en x).c = x.c := rfl
  have e4 : (en x).d = x.d := rfl
  unfold WtE at h1
  rw [e1, e2, e3, e4] at h1
  unfold Wt
  omega
theorem lmay_wtE {b t : Int} {l : List En} (h : lmay b t l = true) : ∀ e ∈ l, WtE e := fun e he => by
  have h1 := rgt_ok (lmay_iff.1 h).2.2 e he
  unfold WtE
  omega
theorem fromL_wtE (b t : Int) (l : List En) (ix most : Int) : ∀ e ∈ fromL b t l ix most, WtE e := by
  unfold fromL
  intro e he
  split at he
  · rename_i hc
    exact lmay_wtE hc.1 e (List.mem_of_mem_drop (List.mem_of_mem_take he))
  · cases he
/-- entries, where both are the same. -/
theorem entries_same (l : List En) (A : Option Addr) (n c : Nat) (L : List Er) (B : Option Addr) (m d : Nat) (L' : List Er) (w : World) (hr : Rd w T 4 A n (flat ecell L)) (hr' : Rd w T 4 B m (flat ecell L')) (hd : Dat w L) (hd' : Dat w L') (hs : L.map en = l) (hs' : L'.map en = l) (hl : ∀ e ∈ l, WtE e) (hlen : l.length ≤ 1000000) (htab : TabW w) :
    Calls Tryd.prog 14 #[.slice A n c, .slice B m d] w (BoolPost w true) := by
  have e1 := hr.flen ecell_len (by omega)
  have e2 := hr'.flen ecell_len (by omega)
  have e3 : L.length = l.length := by rw [← hs]; simp
  have e4 : L'.length = l.length := by rw [← hs']; simp
  obtain rfl : n = m := by omega
  exact entries_yes A n c L B d L' w hr hr' (fun x hx => (hd x hx).1) (fun x hx => (hd' x hx).1) (hs'.trans hs.symm) (wt_of hl hs hd) (wt_of hl hs' hd') (by omega) htab
end Go.Proofs.YtefjejlpbfbpcaaDoor
