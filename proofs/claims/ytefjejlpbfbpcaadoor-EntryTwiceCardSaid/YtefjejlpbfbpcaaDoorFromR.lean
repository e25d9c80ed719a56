/- Walk: the document's From. -/
import Derived.Test.YtefjejlpbfbpcaaDoorFrom
namespace Go.Proofs.YtefjejlpbfbpcaaDoor
open Go.RowKit
set_option maxRecDepth 100000
set_option linter.unusedVariables false
set_option linter.unusedSimpArgs false
theorem rent_elem : Elem Tryd.prog 47 (.agg #[.int .i64 0, .int .i64 0, .int .i64 0, .slice none 0 0]) 4 48 := by unfold Elem; kernel_rfl
def FromRPost (W : World) (L' : List Er) (e : Ending) (w' : World) : Prop := ∃ A n c, e = .returned (.slice A n c) ∧ Rd w' T 4 A n (flat ecell L') ∧ Below W.heap.size W w'
theorem fromR_nil (b t ix most : Int) (A : Option Addr) (n c : Nat) (L : List Er) (w : World) {ok : Nat → Prop} (hr : Rd w ok 4 A n (flat ecell L)) (hw : Wel L) (hn : n ≤ 1000000) (h : lmay b t (L.map en) = false ∨ (lmay b t (L.map en) = true ∧ ix ≤ b)) :
    Calls Tryd.prog 16 #[.agg #[.int .i64 b, .int .i64 t, .slice A n c], .int .i64 ix, .int .i64 most] w fun e w' => e = .returned (.slice none 0 0) ∧ Below w.heap.size w w' := by
  have hm := fun W (hW : Below w.heap.size w W) => mayR_any b t A n c L W (hr.below hW) hw hn
  have hl := fun W (hW : Below w.heap.size w W) => lastR_any b t A n c L W (hr.below hW) hw hn
  generalize (if lmay b t (L.map en) then lstA b (L.map en) else 0) = la at hl
  generalize (if lmay b t (L.map en) then lstB t (L.map en) else 0) = lb at hl
  generalize lmay b t (L.map en) = q at hm h
  have Hm := Lib.hid hm
  have Hl := Lib.hid hl
  have Bb := Lib.hid (Bx.new w #[.int .i64 b, .int .i64 t, .slice A n c] 24 rfl)
  have Ba := Lib.hid ((Below.refl w.heap.size w).alloc (Nat.le_refl _) (.cells #[.int .i64 b, .int .i64 t, .slice A n c] 24))
  clear hm hl hr hw
  go_enter Tryd.func16, Tryd.ntmps16
  go_wp2_with fail
  refine (Hl.out _ Ba.out).mono ?_
  rintro e w1 ⟨rfl, hb1⟩
  obtain ⟨k0, k1, k2, -⟩ := (Bb.out.below hb1).c3
  have hb2 := Ba.out.trans (hb1.mono Ba.out.size)
  have B2 := Lib.hid hb2
  have Bb1 := Lib.hid (Bb.out.below hb1)
  clear hb1 hb2
  go_wp2_with fail
  refine (Hm.out _ B2.out).mono ?_
  rintro e w2 ⟨rfl, hb3⟩
  clear k0 k1 k2
  obtain ⟨k0, k1, k2, -⟩ := (Bb1.out.below hb3).c3
  have hb4 := B2.out.trans (hb3.mono B2.out.size)
  have B4 := Lib.hid hb4
  clear hb3 hb4
  rcases h with rfl | ⟨rfl, h1⟩
  · go_wp2_with fail
    go_ret
    exact ⟨rfl, B4.out⟩
  · go_wp2_with fail
    go_ret
    exact ⟨rfl, B4.out⟩
theorem take_one {L : List Er} {pp j : Nat} {x : Er} (h : L[pp + j]? = some x) : (L.drop pp).take (j + 1) = (L.drop pp).take j ++ [x] := by
  have h1 : (L.drop pp)[j]? = some x := by rw [List.getElem?_drop]; exact h
  obtain ⟨h2, h3⟩ := List.getElem?_eq_some_iff.1 h1
  rw [List.take_succ_eq_append_getElem h2, h3]
set_option maxHeartbeats 3200000 in
theorem fromR_some (b t ix most : Int) (A : Option Addr) (n c : Nat) (L : List Er) (w : World) (hr : Rd w T 4 A n (flat ecell L)) (hw : Wel L) (hn : n ≤ 1000000) (hm : lmay b t (L.map en) = true) (h1 : b < ix) (h1x : ix ≤ 9223372036854775807) :
    Calls Tryd.prog 16 #[.agg #[.int .i64 b, .int .i64 t, .slice A n c], .int .i64 ix, .int .i64 most] w (FromRPost w ((L.drop (ix - b - 1).toNat).take most.toNat)) := by
  have hma := fun W (hW : Below w.heap.size w W) => mayR_any b t A n c L W (hr.below hW) hw hn
  have hl := fun W (hW : Below w.heap.size w W) => lastR_any b t A n c L W (hr.below hW) hw hn
  rw [hm, if_pos rfl, if_pos rfl] at hl
  rw [hm] at hma
  have hlen := hr.flen ecell_len (by omega)
  have hll := lmay_last hm
  rw [List.length_map, hlen] at hll
  have hbb := (lmay_iff.1 hm).1
  have hb40 : 0 ≤ b ∧ b ≤ 1099511627776 := by omega
  generalize lstA b (L.map en) = la at hl hll
  generalize lstB t (L.map en) = lb at hl
  obtain ⟨pp, hpp⟩ : ∃ pp : Nat, (pp : Int) = ix - b - 1 := ⟨(ix - b - 1).toNat, by omega⟩
  have hpt : (ix - b - 1).toNat = pp := by omega
  rw [hpt]
  have Hm := Lib.hid hma
  have Hl := Lib.hid hl
  have Hr := Lib.hid hr
  have Hlen := Lib.hid hlen
  have Hll := Lib.hid hll
  have Hpp := Lib.hid hpp
  have Bb := Lib.hid (Bx.new w #[.int .i64 b, .int .i64 t, .slice A n c] 24 rfl)
  have Ba := Lib.hid ((Below.refl w.heap.size w).alloc (Nat.le_refl _) (.cells #[.int .i64 b, .int .i64 t, .slice A n c] 24))
  have hd1 : decide (ix ≤ b) = false := by simp; omega
  have Hone := Lib.hid (fun x => ecell_one [x])
  clear hma hl hr hw hlen hll hpp hpt hm hbb
  go_enter Tryd.func16, Tryd.ntmps16
  go_wp2_with fail
  refine (Hl.out _ Ba.out).mono ?_
  rintro e w1 ⟨rfl, hb1⟩
  obtain ⟨k0, k1, k2, -⟩ := (Bb.out.below hb1).c3
  have hb2 := Ba.out.trans (hb1.mono Ba.out.size)
  have B2 := Lib.hid hb2
  have Bb1 := Lib.hid (Bb.out.below hb1)
  clear hb1 hb2
  go_wp2_with fail
  refine (Hm.out _ B2.out).mono ?_
  rintro e w2 ⟨rfl, hb3⟩
  clear k0 k1 k2
  have Bb2 := Lib.hid (Bb1.out.below hb3)
  have hb4 := B2.out.trans (hb3.mono B2.out.size)
  have B4 := Lib.hid hb4
  obtain ⟨k0, k1, k2, -⟩ := Bb2.out.c3
  clear hb3 hb4
  go_wp2_with fail
  clear k0 k1 k2
  go_loopg [9, 10] (n + 1) (fun mu s9 s10 wr => ∃ j Q cq iv, mu = n + 1 - j ∧ (j = 0 ∨ pp + j ≤ n) ∧ j ≤ most.toNat ∧ s9 = .slice Q j cq ∧ s10 = .int .i64 iv ∧ iv = b + 1 + pp + j ∧ wr.ownsRow w2.heap.size 47 4 (.slice Q j cq) j (flat ecell ((L.drop pp).take j)) ∧ Below w2.heap.size w2 wr)
  case atStart => exact ⟨0, none, 0, ix, by omega, .inl rfl, Nat.zero_le _, rfl, rfl, by have := Hpp.out; omega, own_nil _ _ _ _ _ rfl, Below.refl _ _⟩
  case round =>
    obtain ⟨j, Q, cq, iv, hmu, hj, hjm, rfl, rfl, hiv, hown, hbe⟩ := hrel
    have Hmu := Lib.hid hmu
    have Hiv := Lib.hid hiv
    have Hown := Lib.hid hown
    have Hbe := Lib.hid hbe
    obtain ⟨k0, k1, k2, -⟩ := (Bb2.out.below hbe).c3
    have hbw := B4.out.trans (hbe.mono B4.out.size)
    have hll := Hll.out
    have hll0 := Hlen.out
    have hfin : ¬ (iv ≤ la ∧ (j : Int) < most) → (L.drop pp).take j = (L.drop pp).take most.toNat := by
      intro hc
      by_cases hlm : (j : Int) < most
      · have hge : n ≤ pp + j := by omega
        rw [List.take_of_length_le (by simp; omega), List.take_of_length_le (by simp; omega)]
      · rw [show most.toNat = j by omega]
    have Hfin := Lib.hid hfin
    clear hfin
    obtain ⟨wq, rfl⟩ : ∃ wq, wq = wr := ⟨_, rfl⟩
    by_cases hil : iv ≤ la
    · by_cases hlm : (j : Int) < most
      · have hkn : pp + j < n := by omega
        obtain ⟨xb, xo, x, hxA, -, -, hx, x0, x1, x2, x3⟩ := er_cells (Hr.out.below hbw) hkn
        subst hxA
        have hkk : iv - b - 1 = ((pp + j : Nat) : Int) := by omega
        obtain ⟨kk, hkkk⟩ : ∃ kk, kk = pp + j := ⟨_, rfl⟩
        rw [← hkkk] at x0 x1 x2 x3 hkk hkn
        have hw1 : IntKind.i64.wrap (iv - b) = iv - b := by rw [IntKind.wrap_i64]; omega
        have hivs : 0 ≤ iv ∧ iv ≤ 1099512627776 := by omega
        obtain ⟨hiv0, hiv1⟩ := hivs
        have hkI : (kk : Int) < n := by omega
        have Htk := Lib.hid (take_one hx)
        have hj6 : j ≤ 1000000 := by omega
        have Hkk := Lib.hid hkkk
        clear hmu hiv hown hbe hbw hll hll0 hx hkkk hj
        go_wp2_with (at_builtin; go_must (refine wpList_append_any _ Tryd.underlying22 rent_elem rfl (by omega) rfl rfl rfl (Hown.out.alloc _) rfl (Rd.lit4 (cs := #[.int .i64 x.a, .int .i64 x.b, .int .i64 x.c, .slice x.A x.n x.m]) _ _ rfl) (Hone.out x) (by omega) (by have := Hbe.out.size; simp; omega) rfl rfl ?_); intro Q2 cq2 w5 hown2 hg2 hat2; have Hown2 := Lib.hid hown2; have hrow := own_lt Hown.out; have hb5 : Below w2.heap.size w2 w5 := (Hbe.out.alloc Hbe.out.size _).grown hg2 (by have := Hbe.out.size; simp; omega) (fun g hg => (hrow g hg).1); have Hb5 := Lib.hid hb5; clear hown2 hg2 hat2 hrow hb5)
        go_roundg (n + 1 - (j + 1))
        case measure => have := Hmu.out; have := Hkk.out; omega
        case rel =>
          refine ⟨j + 1, Q2, cq2, _, rfl, .inr (by have := Hkk.out; omega), by omega, rfl, rfl, by have := Hiv.out; push_cast; omega, ?_, Hb5.out⟩
          have h := Hown2.out
          rw [Htk.out, flat_append, flat_one]
          exact h
      · have hd2 : decide ((j : Int) < most) = false := by simpa using hlm
        have hF := Hfin.out (fun h => hlm h.2)
        have HF := Lib.hid hF
        clear hF hmu hiv hown hbe hbw hll hll0 hj
        go_wp2_with fail
        go_ret
        exact ⟨Q, j, cq, rfl, by rw [← HF.out]; exact (Rd.of_own Hown.out).any, B4.out.trans (Hbe.out.mono B4.out.size)⟩
    · have hd2 : decide (iv ≤ la) = false := by simpa using hil
      have hF := Hfin.out (fun h => hil h.1)
      have HF := Lib.hid hF
      clear hF hmu hiv hown hbe hbw hll hll0 hj
      go_wp2_with fail
      go_ret
      exact ⟨Q, j, cq, rfl, by rw [← HF.out]; exact (Rd.of_own Hown.out).any, B4.out.trans (Hbe.out.mono B4.out.size)⟩
end Go.Proofs.YtefjejlpbfbpcaaDoor
