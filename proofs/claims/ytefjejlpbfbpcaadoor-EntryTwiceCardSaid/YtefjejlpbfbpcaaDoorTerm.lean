/- Walks of the log's term; of Last, Term. -/
import Derived.Test.YtefjejlpbfbpcaaDoorLastR
import Derived.Test.YtefjejlpbfbpcaaDoorLogs2
namespace Go.Proofs.YtefjejlpbfbpcaaDoor
open Go.RowKit
set_option maxRecDepth 100000
set_option linter.unusedVariables false
set_option linter.unusedSimpArgs false
def errC (k : Int) : Value := if k = 0 then .nilIface else .iface 83 (.int .i64 k)
def TermPost (W : World) (r : Int × Int) (e : Ending) (w' : World) : Prop := e = .returned (.tuple #[.int .i64 r.2, errC r.1]) ∧ Below W.heap.size W w'
set_option maxHeartbeats 1600000 in
theorem term_any (b t ix : Int) (A : Option Addr) (n c : Nat) (L : List Er) (w : World) {ok : Nat → Prop} (hr : Rd w ok 4 A n (flat ecell L)) (hm : lmay b t (L.map en) = true) (hn : n ≤ 1000000) :
    Calls Tryd.prog 35 #[.agg #[.int .i64 b, .int .i64 t, .slice A n c], .int .i64 ix] w (TermPost w (termL b t (L.map en) ix)) := by
  have hll := hr.flen ecell_len (by omega)
  have hl := fun ob => last_any b t A n c L (w.alloc ob) (hr.alloc ob) hn
  have hz := lmay_last hm
  have hbb := (lmay_iff.1 hm).1
  rw [List.length_map, hll] at hz
  obtain ⟨R, hR⟩ : ∃ R, termL b t (L.map en) ix = R := ⟨_, rfl⟩
  rw [hR]
  unfold termL at hR
  generalize lstB t (L.map en) = y at hl
  generalize lstA b (L.map en) = z at hl hz hR
  have Bb := Lib.hid (Bx.new w #[.int .i64 b, .int .i64 t, .slice A n c] 31 rfl)
  have Hl := Lib.hid hl
  have Hz := Lib.hid hz
  have Hr := Lib.hid hr
  have Hm := Lib.hid hm
  clear hl hz hr hm
  by_cases h1 : z < ix
  · rw [if_pos (.inl h1)] at hR
    have HR := Lib.hid hR
    clear hR
    go_enter Tryd.func35, Tryd.ntmps35
    go_wp2_with fail
    refine (Hl.out _).mono ?_
    rintro e w2 ⟨rfl, hb2⟩
    obtain ⟨k0, k1, k2, -⟩ := (Bb.out.below hb2).c3
    have hb3 := ((Below.refl w.heap.size w).alloc (Nat.le_refl _) (.cells #[.int .i64 b, .int .i64 t, .slice A n c] 31)).trans (hb2.mono (by simp))
    clear hb2
    go_wp2_with fail
    go_ret2
    exact ⟨by rw [← HR.out]; rfl, hb3⟩
  · have h1d : decide (z < ix) = false := decide_eq_false h1
    by_cases h2 : ix < 0
    · rw [if_pos (.inr h2)] at hR
      have HR := Lib.hid hR
      clear hR
      go_enter Tryd.func35, Tryd.ntmps35
      go_wp2_with fail
      refine (Hl.out _).mono ?_
      rintro e w2 ⟨rfl, hb2⟩
      obtain ⟨k0, k1, k2, -⟩ := (Bb.out.below hb2).c3
      have hb3 := ((Below.refl w.heap.size w).alloc (Nat.le_refl _) (.cells #[.int .i64 b, .int .i64 t, .slice A n c] 31)).trans (hb2.mono (by simp))
      clear hb2
      go_wp2_with fail
      go_ret2
      exact ⟨by rw [← HR.out]; rfl, hb3⟩
    · have h2d : decide (ix < 0) = false := decide_eq_false h2
      rw [if_neg (by omega)] at hR
      by_cases h3 : ix < b
      · rw [if_pos h3] at hR
        have HR := Lib.hid hR
        clear hR
        go_enter Tryd.func35, Tryd.ntmps35
        go_wp2_with fail
        refine (Hl.out _).mono ?_
        rintro e w2 ⟨rfl, hb2⟩
        obtain ⟨k0, k1, k2, -⟩ := (Bb.out.below hb2).c3
        have hb3 := ((Below.refl w.heap.size w).alloc (Nat.le_refl _) (.cells #[.int .i64 b, .int .i64 t, .slice A n c] 31)).trans (hb2.mono (by simp))
        clear hb2
        go_wp2_with fail
        go_ret2
        exact ⟨by rw [← HR.out]; rfl, hb3⟩
      · have h3d : decide (ix < b) = false := decide_eq_false h3
        rw [if_neg h3] at hR
        by_cases h4 : ix = b
        · rw [if_pos h4] at hR
          subst h4
          have HR := Lib.hid hR
          clear hR
          go_enter Tryd.func35, Tryd.ntmps35
          go_wp2_with fail
          refine (Hl.out _).mono ?_
          rintro e w2 ⟨rfl, hb2⟩
          obtain ⟨k0, k1, k2, -⟩ := (Bb.out.below hb2).c3
          have hb3 := ((Below.refl w.heap.size w).alloc (Nat.le_refl _) (.cells #[.int .i64 ix, .int .i64 t, .slice A n c] 31)).trans (hb2.mono (by simp))
          clear hb2
          go_wp2_with fail
          go_ret2
          exact ⟨by rw [← HR.out]; rfl, hb3⟩
        · have h4d : (ix == b) = false := by simpa using h4
          rw [if_neg h4] at hR
          obtain ⟨m, hm1⟩ : ∃ m : Nat, ix - b - 1 = (m : Int) := ⟨(ix - b - 1).toNat, by omega⟩
          have hmn : m < n := by have := Hz.out; omega
          have w1 : IntKind.i64.wrap (ix - b) = ix - b := by rw [IntKind.wrap_i64]; have := Hz.out; omega
          have w2 : IntKind.i64.wrap (ix - b - 1) = (m : Int) := by rw [IntKind.wrap_i64]; have := Hz.out; omega
          obtain ⟨bk, o, x, rfl, _, hbl, hx, c0, c1, c2, c3⟩ := er_cells Hr.out hmn
          have htn : (ix - b - 1).toNat = m := by omega
          rw [htn, List.getElem?_map, hx] at hR
          have hmI : (m : Int) < n := by omega
          have hm0 : (0 : Int) ≤ m := by omega
          have HR := Lib.hid hR
          have C1 := Lib.hid c1
          clear hR hm1 htn c0 c1 c2 c3 hx
          go_enter Tryd.func35, Tryd.ntmps35
          go_wp2_with fail
          refine (Hl.out _).mono ?_
          rintro e w2 ⟨rfl, hb2⟩
          obtain ⟨k0, k1, k2, -⟩ := (Bb.out.below hb2).c3
          have hb3 := ((Below.refl w.heap.size w).alloc (Nat.le_refl _) (.cells #[.int .i64 b, .int .i64 t, .slice (some ⟨bk, o, none⟩) n c] 31)).trans (hb2.mono (by simp))
          clear hb2
          have k3 : w2.cell? ⟨bk, o + m * 4 + 1, none⟩ = some (.int .i64 x.b) := (hb3.cell (p := ⟨bk, o + m * 4 + 1, none⟩) hbl).trans C1.out
          go_wp2_with fail
          go_ret2
          exact ⟨by rw [← HR.out]; rfl, hb3⟩
theorem Last_any (b t : Int) (A : Option Addr) (n c : Nat) (L : List Er) (w : World) {ok : Nat → Prop} (hr : Rd w ok 4 A n (flat ecell L)) (hw : Wel L) (hm : lmay b t (L.map en) = true) (hn : n ≤ 1000000) :
    Calls Tryd.prog 24 #[.agg #[.int .i64 b, .int .i64 t, .slice A n c]] w (TwoInt w (lstA b (L.map en)) (lstB t (L.map en))) := by
  have hmm := fun ob => may_any b t A n c L (w.alloc ob) (hr.alloc ob) hw hn
  have hl := fun W (hb : Below w.heap.size w W) => last_any b t A n c L W (hr.below hb) hn
  rw [hm] at hmm
  generalize lstA b (L.map en) = x at hl
  generalize lstB t (L.map en) = y at hl
  have Bb := Lib.hid (Bx.new w #[.int .i64 b, .int .i64 t, .slice A n c] 31 rfl)
  have Hmm := Lib.hid hmm
  have Hl := Lib.hid hl
  clear hmm hl hr hw hm
  go_enter Tryd.func24, Tryd.ntmps24
  go_wp2_with fail
  refine (Hmm.out _).mono ?_
  rintro e w2 ⟨rfl, hb2⟩
  obtain ⟨k0, k1, k2, -⟩ := (Bb.out.below hb2).c3
  have hb3 := ((Below.refl w.heap.size w).alloc (Nat.le_refl _) (.cells #[.int .i64 b, .int .i64 t, .slice A n c] 31)).trans (hb2.mono (by simp))
  clear hb2
  go_wp2_with fail
  refine (Hl.out _ hb3).mono ?_
  rintro e w3 ⟨rfl, hb4⟩
  go_wp2_with fail
  go_ret2
  exact ⟨rfl, hb3.trans (hb4.mono hb3.size)⟩
end Go.Proofs.YtefjejlpbfbpcaaDoor
