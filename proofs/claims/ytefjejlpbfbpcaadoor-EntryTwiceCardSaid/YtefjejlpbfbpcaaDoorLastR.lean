/- Walk of the document's Last. -/
import Derived.Test.YtefjejlpbfbpcaaDoorMay
namespace Go.Proofs.YtefjejlpbfbpcaaDoor
open Go.RowKit
set_option maxRecDepth 100000
set_option linter.unusedVariables false
set_option linter.unusedSimpArgs false
set_option maxHeartbeats 800000 in
theorem lastR_any (b t : Int) (A : Option Addr) (n c : Nat) (L : List Er) (w : World) {ok : Nat → Prop} (hr : Rd w ok 4 A n (flat ecell L)) (hw : Wel L) (hn : n ≤ 1000000) :
    Calls Tryd.prog 25 #[.agg #[.int .i64 b, .int .i64 t, .slice A n c]] w (TwoInt w (if lmay b t (L.map en) then lstA b (L.map en) else 0) (if lmay b t (L.map en) then lstB t (L.map en) else 0)) := by
  have hll := hr.flen ecell_len (by omega)
  have hm := fun ob => mayR_any b t A n c L (w.alloc ob) (hr.alloc ob) hw hn
  generalize lmay b t (L.map en) = q at hm
  have Hm := Lib.hid hm
  have Bb := Lib.hid (Bx.new w #[.int .i64 b, .int .i64 t, .slice A n c] 24 rfl)
  clear hm hw
  cases q
  · clear hr
    go_enter Tryd.func25, Tryd.ntmps25
    go_wp2_with fail
    refine (Hm.out _).mono ?_
    rintro e w2 ⟨rfl, hb2⟩
    go_wp2_with fail
    go_ret2
    exact ⟨rfl, ((Below.refl _ _).alloc (Nat.le_refl _) _).trans (hb2.mono (by simp))⟩
  · by_cases h0 : n = 0
    · subst h0
      obtain rfl : L = [] := List.eq_nil_of_length_eq_zero hll
      clear hll hr
      go_enter Tryd.func25, Tryd.ntmps25
      go_wp2_with fail
      refine (Hm.out _).mono ?_
      rintro e w2 ⟨rfl, hb2⟩
      obtain ⟨k0, k1, k2, -⟩ := (Bb.out.below hb2).c3
      go_wp2_with fail
      go_quiet (fail)
      go_wp2_with fail
      go_ret2
      exact ⟨rfl, below_drewN (((Below.refl _ _).alloc (Nat.le_refl _) _).trans (hb2.mono (by simp))) _⟩
    · obtain ⟨m, rfl⟩ : ∃ m, n = m + 1 := ⟨n - 1, by omega⟩
      obtain ⟨bk, o, x, rfl, _, hbl, hx, c0, c1, c2, c3⟩ := er_cells hr (j := m) (by omega)
      obtain ⟨e, he, ha, hb⟩ := lstA_len (b := b) (l := L.map en) (by simp; omega)
      have hex : e = en x := by
        rw [List.getElem?_map, List.length_map, hll, Nat.add_sub_cancel, hx] at he
        exact (Option.some.inj he).symm
      rw [ha, hb t, hex]
      have hA : (en x).a = x.a := rfl
      have hB : (en x).b = x.b := rfl
      rw [hA, hB]
      have hmI : (0 : Int) < (m : Int) + 1 := by omega
      have hm0 : (0 : Int) ≤ (m : Int) := by omega
      have hml : (m : Int) < (m : Int) + 1 := by omega
      have hwm : IntKind.i64.wrap (m : Int) = (m : Int) := by rw [IntKind.wrap_i64]; omega
      have hne : ((m : Int) + 1 == 0) = false := by simp; omega
      have a0 : w.cell? ⟨bk, o + m * 4, none⟩ = some (.int .i64 x.a) := c0
      have a1 : w.cell? ⟨bk, o + m * 4 + 1, none⟩ = some (.int .i64 x.b) := c1
      have C := Lib.hid (And.intro a0 a1)
      clear he ha hb hex hr hll hx c0 c1 c2 c3 a0 a1
      go_enter Tryd.func25, Tryd.ntmps25
      go_wp2_with fail
      refine (Hm.out _).mono ?_
      rintro e w2 ⟨rfl, hb2⟩
      obtain ⟨k0, k1, k2, -⟩ := (Bb.out.below hb2).c3
      have hb3 := ((Below.refl w.heap.size w).alloc (Nat.le_refl _) (.cells #[.int .i64 b, .int .i64 t, .slice (some ⟨bk, o, none⟩) (m + 1) c] 24)).trans (hb2.mono (by simp))
      have a0 : w2.cell? ⟨bk, o + m * 4, none⟩ = some (.int .i64 x.a) := (hb3.cell (p := ⟨bk, o + m * 4, none⟩) hbl).trans C.out.1
      have a1 : w2.cell? ⟨bk, o + m * 4 + 1, none⟩ = some (.int .i64 x.b) := (hb3.cell (p := ⟨bk, o + m * 4 + 1, none⟩) hbl).trans C.out.2
      clear hb2
      go_wp2_with fail
      go_quiet (fail)
      go_wp2_with fail
      go_ret2
      exact ⟨rfl, below_drewN hb3 _⟩
end Go.Proofs.YtefjejlpbfbpcaaDoor
