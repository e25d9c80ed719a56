/- Walks: entry.Last, Term, Compact of any log; the document's Term, Compact. -/
import Derived.Test.YtefjejlpbfbpcaaDoorComp
import Derived.Test.YtefjejlpbfbpcaaDoorLastR
namespace Go.Proofs.YtefjejlpbfbpcaaDoor
open Go.RowKit
set_option maxRecDepth 100000
set_option linter.unusedVariables false
set_option linter.unusedSimpArgs false
/-- The term of an index in any log, or the error's number. -/
def compL (b t : Int) (l : List En) (ix : Int) : Int × Int := if lmay b t l then termL b t l ix else (1, 0)
theorem compL_yes {b t ix : Int} {l : List En} (h : lmay b t l = true) : compL b t l ix = termL b t l ix := if_pos h
theorem compL_no {b t ix : Int} {l : List En} (h : lmay b t l = false) : compL b t l ix = (1, 0) := by unfold compL; rw [h]; rfl
theorem LastA_any (b t : Int) (A : Option Addr) (n c : Nat) (L : List Er) (w : World) {ok : Nat → Prop} (hr : Rd w ok 4 A n (flat ecell L)) (hw : Wel L) (hn : n ≤ 1000000) :
    Calls Tryd.prog 24 #[.agg #[.int .i64 b, .int .i64 t, .slice A n c]] w (TwoInt w (if lmay b t (L.map en) then lstA b (L.map en) else 0) (if lmay b t (L.map en) then lstB t (L.map en) else 0)) := by
  by_cases hm : lmay b t (L.map en) = true
  · rw [if_pos hm, if_pos hm]
    exact Last_any b t A n c L w hr hw hm hn
  · rw [Bool.not_eq_true] at hm
    rw [hm]
    have hmm := fun ob => may_any b t A n c L (w.alloc ob) (hr.alloc ob) hw hn
    rw [hm] at hmm
    have Hmm := Lib.hid hmm
    clear hmm hr hw hm
    go_enter Tryd.func24, Tryd.ntmps24
    go_wp2_with fail
    refine (Hmm.out _).mono ?_
    rintro e w2 ⟨rfl, hb2⟩
    have hb3 := ((Below.refl w.heap.size w).alloc (Nat.le_refl _) (.cells #[.int .i64 b, .int .i64 t, .slice A n c] 31)).trans (hb2.mono (by simp))
    clear hb2
    go_wp2_with fail
    go_ret2
    exact ⟨rfl, hb3⟩
theorem TermA_any (b t ix : Int) (A : Option Addr) (n c : Nat) (L : List Er) (w : World) {ok : Nat → Prop} (hr : Rd w ok 4 A n (flat ecell L)) (hw : Wel L) (hn : n ≤ 1000000) :
    Calls Tryd.prog 19 #[.agg #[.int .i64 b, .int .i64 t, .slice A n c], .int .i64 ix] w (TermPost w (compL b t (L.map en) ix)) := by
  by_cases hm : lmay b t (L.map en) = true
  · rw [compL_yes hm]
    exact Term_any b t ix A n c L w hr hw hm hn
  · rw [Bool.not_eq_true] at hm
    rw [compL_no hm]
    have hmm := fun ob => may_any b t A n c L (w.alloc ob) (hr.alloc ob) hw hn
    rw [hm] at hmm
    have Hmm := Lib.hid hmm
    clear hmm hr hw hm
    go_enter Tryd.func19, Tryd.ntmps19
    go_wp2_with fail
    refine (Hmm.out _).mono ?_
    rintro e w2 ⟨rfl, hb2⟩
    have hb3 := ((Below.refl w.heap.size w).alloc (Nat.le_refl _) (.cells #[.int .i64 b, .int .i64 t, .slice A n c] 31)).trans (hb2.mono (by simp))
    clear hb2
    go_wp2_with fail
    go_ret2
    exact ⟨rfl, hb3⟩
theorem compA_any (b t ix : Int) (A : Option Addr) (n c : Nat) (L : List Er) (w : World) (hr : Rd w T 4 A n (flat ecell L)) (hd : Dat w L) (hw : Wel L) (hs : ∀ x ∈ L, x.n ≤ 1000000) (hn : n ≤ 1000000) (hnc : n ≤ c) (hcm : c ≤ maxLen) :
    Calls Tryd.prog 21 #[.agg #[.int .i64 b, .int .i64 t, .slice A n c], .int .i64 ix] w (CompPost w b t ix n L (compL b t (L.map en) ix)) := by
  by_cases hm : lmay b t (L.map en) = true
  · rw [compL_yes hm]
    exact comp_any b t ix A n c L w hr hd hw hs hm hn hnc hcm
  · rw [Bool.not_eq_true] at hm
    rw [compL_no hm]
    obtain ⟨W0, hW0⟩ : ∃ W0, W0 = (w.alloc (.cells #[.int .i64 b, .int .i64 t, .slice A n c] 31)).alloc (.cells #[.int .i64 0, .int .i64 0, .slice none 0 0] 31) := ⟨_, rfl⟩
    have F0 : Fr W0 (w.heap.size + 1) 3 W0 := by subst hW0; exact Fr.new (by simp) rfl
    have hbe : Below w.heap.size w W0 := by subst hW0; exact ((Below.refl _ _).alloc (Nat.le_refl _) _).alloc (by simp) _
    have r0 : Rd W0 T 4 A n (flat ecell L) := hr.below hbe
    have hmm := may_any b t A n c L W0 r0 hw hn
    rw [hm] at hmm
    have hp : ∀ e w', (e = .returned (.tuple #[.agg #[.int .i64 0, .int .i64 0, .slice none 0 0], errC 1]) ∧ Below w.heap.size w w') → CompPost w b t ix n L (1, 0) e w' := fun e w' h => by unfold CompPost; rw [if_neg (by decide)]; exact h
    have Hp := Lib.hid hp
    have Hmm := Lib.hid hmm
    have HW := Lib.hid hW0
    have he1 : errC 1 = .iface 83 (.int .i64 1) := rfl
    have He1 := Lib.hid he1
    clear hW0 hr hd hw hs hm hp hmm r0 hnc hcm he1
    go_enter Tryd.func21, Tryd.ntmps21
    go_wp2_with fail
    rw [← HW.out]
    refine Hmm.out.mono ?_
    rintro e w2 ⟨rfl, hb2⟩
    have F2 := F0.below hb2
    have q0 : w2.cell? ⟨w.heap.size + 1, 0, none⟩ = some (peek w2 (w.heap.size + 1) 0) := F2.pk (by omega)
    have q1 : w2.cell? ⟨w.heap.size + 1, 1, none⟩ = some (peek w2 (w.heap.size + 1) 1) := F2.pk (by omega)
    have q2 : w2.cell? ⟨w.heap.size + 1, 2, none⟩ = some (peek w2 (w.heap.size + 1) 2) := F2.pk (by omega)
    have g0 : w2.frozen? ⟨w.heap.size + 1, 0, none⟩ = false := F2.fz _
    have g1 : w2.frozen? ⟨w.heap.size + 1, 1, none⟩ = false := F2.fz _
    have g2 : w2.frozen? ⟨w.heap.size + 1, 2, none⟩ = false := F2.fz _
    go_wp2_with fail
    have FF := Fr.set (Fr.set (Fr.set F2 0 (.int .i64 0)) 1 (.int .i64 0)) 2 (.slice none 0 0)
    refine bodyPost_ret (by simp [results, Tryd.results21, go_sem, q0, q1, q2]; rfl) rfl ?_
    exact Hp.out _ _ ⟨by rw [He1.out], hbe.trans (FF.to_below (B := w.heap.size) (by omega))⟩
set_option maxHeartbeats 1600000 in
theorem termR_any (b t ix : Int) (A : Option Addr) (n c : Nat) (L : List Er) (w : World) {ok : Nat → Prop} (hr : Rd w ok 4 A n (flat ecell L)) (hw : Wel L) (hn : n ≤ 1000000) :
    Calls Tryd.prog 26 #[.agg #[.int .i64 b, .int .i64 t, .slice A n c], .int .i64 ix] w (TwoInt w (compL b t (L.map en) ix).2 (compL b t (L.map en) ix).1) := by
  have hmm := fun ob => mayR_any b t A n c L (w.alloc ob) (hr.alloc ob) hw hn
  have hl := fun W (hb : Below w.heap.size w W) => lastR_any b t A n c L W (hr.below hb) hw hn
  have Bb := Lib.hid (Bx.new w #[.int .i64 b, .int .i64 t, .slice A n c] 24 rfl)
  have Hb0 := Lib.hid ((Below.refl w.heap.size w).alloc (Nat.le_refl _) (.cells #[.int .i64 b, .int .i64 t, .slice A n c] 24))
  by_cases hm : lmay b t (L.map en) = true
  · rw [compL_yes hm]
    rw [hm] at hmm
    simp only [hm, if_true] at hl
    have hlast := lmay_last hm
    have hll := hr.flen ecell_len (by omega)
    rw [List.length_map, hll] at hlast
    have hbb := (lmay_iff.1 hm).1
    obtain ⟨R, hR⟩ : ∃ R, termL b t (L.map en) ix = R := ⟨_, rfl⟩
    rw [hR]
    unfold termL at hR
    generalize lstB t (L.map en) = y at hl
    rw [hlast] at hl hR
    have Hmm := Lib.hid hmm
    have Hl := Lib.hid hl
    have Hr := Lib.hid hr
    have HR := Lib.hid hR
    have Hbb := Lib.hid hbb
    have Hll := Lib.hid hll
    clear hmm hl hr hw hm hlast hR hbb hll
    go_enter Tryd.func26, Tryd.ntmps26
    go_wp2_with fail
    refine (Hmm.out _).mono ?_
    rintro e w2 ⟨rfl, hb2⟩
    have hb3 := Hb0.out.trans (hb2.mono (by simp))
    have Bb2 := Lib.hid (Bb.out.below hb2)
    obtain ⟨k0, k1, k2, -⟩ := Bb2.out.c3
    clear hb2
    go_wp2_with fail
    refine (Hl.out _ hb3).mono ?_
    rintro e w3 ⟨rfl, hb4⟩
    have hb5 := hb3.trans (hb4.mono hb3.size)
    obtain ⟨j0, j1, j2, -⟩ := (Bb2.out.below hb4).c3
    have Hb5 := Lib.hid hb5
    clear hb4 hb3 k0 k1 k2 hb5
    by_cases h2 : ix < 0
    · go_wp2_with fail
      go_ret2
      have := HR.out
      rw [if_pos (.inr h2)] at this
      subst this
      exact ⟨rfl, Hb5.out⟩
    have h2d : decide (ix < 0) = false := decide_eq_false h2
    by_cases h1 : b + (n : Int) < ix
    · go_wp2_with fail
      go_ret2
      have := HR.out
      rw [if_pos (.inl h1)] at this
      subst this
      exact ⟨rfl, Hb5.out⟩
    have h1d : decide (b + (n : Int) < ix) = false := decide_eq_false h1
    replace HR := Lib.hid (show _ from (if_neg (by omega : ¬ (b + (n : Int) < ix ∨ ix < 0))).symm.trans HR.out)
    by_cases h3 : ix < b
    · go_wp2_with fail
      go_ret2
      have := HR.out
      rw [if_pos h3] at this
      subst this
      exact ⟨rfl, Hb5.out⟩
    have h3d : decide (ix < b) = false := decide_eq_false h3
    replace HR := Lib.hid (show _ from (if_neg h3).symm.trans HR.out)
    by_cases h4 : ix = b
    · subst h4
      go_wp2_with fail
      go_ret2
      have := HR.out
      rw [if_pos (by trivial)] at this
      subst this
      exact ⟨rfl, Hb5.out⟩
    have h4d : (ix == b) = false := by simpa using h4
    obtain ⟨m, hm1⟩ : ∃ m : Nat, ix - b - 1 = (m : Int) := ⟨(ix - b - 1).toNat, by omega⟩
    have hmn : m < n := by omega
    have w1 : IntKind.i64.wrap (ix - b) = ix - b := by rw [IntKind.wrap_i64]; have := Hbb.out; omega
    have w2' : IntKind.i64.wrap (ix - b - 1) = (m : Int) := by rw [IntKind.wrap_i64]; have := Hbb.out; omega
    obtain ⟨bk, o, x, rfl, _, hbl, hx, c0, c1, c2, c3⟩ := er_cells Hr.out hmn
    have hRR : R = (0, x.b) := by
      have := HR.out
      rw [if_neg h4, show (ix - b - 1).toNat = m by omega, List.getElem?_map, hx] at this
      exact this.symm
    have hmI : (m : Int) < n := by omega
    have hm0 : (0 : Int) ≤ m := by omega
    have k3 : w3.cell? ⟨bk, o + m * 4 + 1, none⟩ = some (.int .i64 x.b) := (Hb5.out.cell (p := ⟨bk, o + m * 4 + 1, none⟩) hbl).trans c1
    have HRR := Lib.hid hRR
    clear c0 c1 c2 c3 hx hm1 hRR
    go_wp2_with fail
    go_ret2
    rw [HRR.out]
    exact ⟨rfl, Hb5.out⟩
  · rw [Bool.not_eq_true] at hm
    rw [compL_no hm]
    rw [hm] at hmm
    have Hmm := Lib.hid hmm
    clear hmm hl hr hw hm
    go_enter Tryd.func26, Tryd.ntmps26
    go_wp2_with fail
    refine (Hmm.out _).mono ?_
    rintro e w2 ⟨rfl, hb2⟩
    have hb3 := Hb0.out.trans (hb2.mono (by simp))
    clear hb2
    go_wp2_with fail
    go_ret2
    exact ⟨rfl, hb3⟩
end Go.Proofs.YtefjejlpbfbpcaaDoor
