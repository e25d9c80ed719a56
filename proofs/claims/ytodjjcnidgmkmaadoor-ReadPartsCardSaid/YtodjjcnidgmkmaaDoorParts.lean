/- Walk of tollbarlaw14.ReadParts. (Printed by mkparts.py.) -/
import Derived.Test.YtodjjcnidgmkmaaDoorAdds
import Derived.Test.YtodjjcnidgmkmaaDoorTakeR
import Derived.Test.YtodjjcnidgmkmaaDoorRoundsR
namespace Go.Proofs.YtodjjcnidgmkmaaDoor
open Go.RowKit
set_option linter.unusedVariables false
set_option linter.unusedSimpArgs false
def takeLim (lim : Int) (l : List It) : Int := if quMay lim l then lim else 0
def takeL (p : It → Bool) (lim : Int) (l : List It) : List It := if quMay lim l then leftOf p l else []
def takeO (p : It → Bool) (lim : Int) (l : List It) : List Int := if quMay lim l then outOf p l else []
theorem takeO_length (p : It → Bool) (lim : Int) (l : List It) : (takeO p lim l).length ≤ l.length := by
  unfold takeO
  split
  · have := left_out_length p l; omega
  · simp
theorem takeL_length (p : It → Bool) (lim : Int) (l : List It) : (takeL p lim l).length ≤ l.length := by
  unfold takeL
  split
  · have := left_out_length p l; omega
  · simp
theorem ranks_len (term lim : Int) (l : List It) : (ranks term lim l).length ≤ l.length := by
  unfold ranks
  split
  · have h1 := roundsOf_len term l
    have e : ((roundsOf term l).mergeSort fun x y => decide (x ≤ y)).length = (roundsOf term l).length := by simp
    have h2 : (Lib.compact ((roundsOf term l).mergeSort fun x y => decide (x ≤ y))).length ≤ (roundsOf term l).length := by
      rw [← e]
      unfold Lib.compact Lib.compactUpTo
      rw [List.length_map]
      have := List.length_filter_le (Lib.keeps ((roundsOf term l).mergeSort fun x y => decide (x ≤ y)).toArray) (List.range ((roundsOf term l).mergeSort fun x y => decide (x ≤ y)).length)
      simpa using this
    omega
  · simp
section
variable (lim : Int) (A : Option Addr) (n c : Nat) (l : List It) (t h a : Int) (w : World) {ok : Nat → Prop} (hr : Rd w ok 4 A n (flat itc l)) (hn : n ≤ 1000000)
include hr hn
theorem take_any : Calls Tryd.prog 11 #[quA lim A n c, .int .i64 t, .int .i64 h, .int .i64 a] w (PartPost w (takeLim lim l) (takeL (isTake t h a) lim l) (takeO (isTake t h a) lim l)) := by
  refine take_good lim A n c l t h a w hr hn _ _ _ ?_
  unfold takeLim takeL takeO
  rcases Bool.eq_false_or_eq_true (quMay lim l) with hm | hm
  · left; simp [hm]
  · right; simp [hm]
theorem failA_any : Calls Tryd.prog 13 #[quA lim A n c, .int .i64 t] w (PartPost w (takeLim lim l) (takeL (isFail t) lim l) (takeO (isFail t) lim l)) := by
  refine fail_any lim A n c l t w hr hn _ _ _ ?_
  unfold takeLim takeL takeO
  rcases Bool.eq_false_or_eq_true (quMay lim l) with hm | hm
  · left; simp [hm]
  · right; simp [hm]
theorem takeR_any : Calls Tryd.prog 12 #[quA lim A n c, .int .i64 t, .int .i64 h, .int .i64 a, .bool false] w (PartPost w (takeLim lim l) (takeL (isTake t h a) lim l) (takeO (isTake t h a) lim l)) := by
  unfold takeLim takeL takeO
  rcases Bool.eq_false_or_eq_true (quMay lim l) with hm | hm
  · rw [hm]; exact takeR_take lim A n c l t h a w hr hn hm
  · rw [hm]; exact takeR_bad lim A n c l t h a false w hr hn hm
theorem failR_any : Calls Tryd.prog 12 #[quA lim A n c, .int .i64 t, .int .i64 h, .int .i64 a, .bool true] w (PartPost w (takeLim lim l) (takeL (isFail t) lim l) (takeO (isFail t) lim l)) := by
  unfold takeLim takeL takeO
  rcases Bool.eq_false_or_eq_true (quMay lim l) with hm | hm
  · rw [hm]; exact takeR_fail lim A n c l t h a w hr hn hm
  · rw [hm]; exact takeR_bad lim A n c l t h a true w hr hn hm
end
theorem parts_far (lim : Int) (A : Option Addr) (n c : Nat) (x : It) (o0 o1 o2 : Int) (w : World) (h : 300 < (n : Int)) :
    Calls Tryd.prog 4 #[.agg #[.int .i64 lim, .slice A n c], itA x, .agg #[.int .i64 o0, .int .i64 o1, .int .i64 o2]] w (YesPost w) := by
  unfold itA
  go_enter Tryd.func4, Tryd.ntmps4
  go_wp2_with fail
  refine (sure_any _).mono ?_
  rintro e w4 ⟨rfl, hb4⟩
  go_wp2_with fail
  go_ret
  exact ⟨rfl, ((((Below.refl _ _).alloc (Nat.le_refl _) _).alloc (by simp) _).alloc (by simp; omega) _).trans (hb4.mono (by simp; omega))⟩
set_option maxRecDepth 100000 in
set_option maxHeartbeats 12800000 in
theorem parts_walk (lim : Int) (A : Option Addr) (n c : Nat) (l : List It) (x : It) (o0 o1 o2 : Int) (w : World) {ok : Nat → Prop} (hg : ErrT w) (hr : Rd w ok 4 A n (flat itc l)) (h1 : (n : Int) ≤ 300) (hnc : n ≤ c) (hA : A = none → c = 0) :
    Calls Tryd.prog 4 #[.agg #[.int .i64 lim, .slice A n c], itA x, .agg #[.int .i64 o0, .int .i64 o1, .int .i64 o2]] w (YesPost w) := by
  have hln := hr.flen itc_len (by omega)
  have hal := addL_len lim l x
  have htl1 := takeL_length (isTake o0 o1 o2) lim l
  have htl2 := takeL_length (isFail o0) lim l
  have hto1 := takeO_length (isTake o0 o1 o2) lim l
  have hto2 := takeO_length (isFail o0) lim l
  have Hln := Lib.hid hln
  obtain ⟨W0, hW0⟩ : ∃ W0, W0 = ((w.alloc (.cells #[.int .i64 lim, .slice A n c] 24)).alloc (.cells #[.int .i64 x.t, .int .i64 x.r, .int .i64 x.i, .int .i64 x.k] 26)).alloc (.cells #[.int .i64 o0, .int .i64 o1, .int .i64 o2] 42) := ⟨_, rfl⟩
  have XQ : Bx W0 w.heap.size #[.int .i64 lim, .slice A n c] := by subst hW0; exact ((Bx.new _ _ _ rfl).alloc _).alloc _
  have XX : Bx W0 (w.heap.size + 1) #[.int .i64 x.t, .int .i64 x.r, .int .i64 x.i, .int .i64 x.k] := by subst hW0; exact (Bx.new _ _ _ (by simp)).alloc _
  have XO : Bx W0 (w.heap.size + 2) #[.int .i64 o0, .int .i64 o1, .int .i64 o2] := by subst hW0; exact Bx.new _ _ _ (by simp)
  have rq : Rd W0 ok 4 A n (flat itc l) := by subst hW0; exact ((hr.alloc _).alloc _).alloc _
  have hbe : Below w.heap.size w W0 := by subst hW0; exact (((Below.refl _ _).alloc (Nat.le_refl _) _).alloc (by simp) _).alloc (by simp; omega) _
  have HW := Lib.hid hW0
  have Hg := Lib.hid hg
  replace rq := rq.any
  have hrk := ranks_len o0 lim l
  have cAdd' := fun (W : World) (A : Option Addr) (n c : Nat) (r : Rd W T 4 A n (flat itc l)) (hn : n ≤ 1000000) => add_any lim A n c l x W r hn
  have cAddR' := fun (W : World) (r : Rd W T 4 A n (flat itc l)) (hn : n ≤ 1000000) => addR_any lim A n c l x W r hn hnc hA
  have cTake' := fun (W : World) (A : Option Addr) (n c : Nat) (r : Rd W T 4 A n (flat itc l)) (hn : n ≤ 1000000) => take_any lim A n c l o0 o1 o2 W r hn
  have cTakeR' := fun (W : World) (r : Rd W T 4 A n (flat itc l)) (hn : n ≤ 1000000) => takeR_any lim A n c l o0 o1 o2 W r hn
  have cFail' := fun (W : World) (A : Option Addr) (n c : Nat) (r : Rd W T 4 A n (flat itc l)) (hn : n ≤ 1000000) => failA_any lim A n c l o0 W r hn
  have cFailR' := fun (W : World) (r : Rd W T 4 A n (flat itc l)) (hn : n ≤ 1000000) => failR_any lim A n c l o0 0 0 W r hn
  have cRnd' := fun (W : World) (A : Option Addr) (n c : Nat) (r : Rd W T 4 A n (flat itc l)) (hn : n ≤ 1000000) => rounds_any lim A n c l o0 W r hn
  have cRndR' := fun (W : World) (r : Rd W T 4 A n (flat itc l)) (hn : n ≤ 1000000) => roundsR_any lim A n c l o0 W r hn
  have cChk' := fun (W : World) (A : Option Addr) (n c : Nat) (r : Rd W T 4 A n (flat itc l)) (hn : n ≤ 1000000) => check_any lim A n c l W r hn
  have cMay' := fun (W : World) (r : Rd W T 4 A n (flat itc l)) (hn : n ≤ 1000000) => mayR_any lim A n c l W r hn
  generalize addLim lim l x = aL at cAdd' cAddR'
  generalize addK lim l x = aK at cAdd' cAddR'
  generalize addL lim l x = lA at cAdd' cAddR' hal
  generalize takeLim lim l = tL at cTake' cTakeR' cFail' cFailR'
  generalize takeL (isTake o0 o1 o2) lim l = l1 at cTake' cTakeR' htl1
  generalize takeO (isTake o0 o1 o2) lim l = s1 at cTake' cTakeR' hto1
  generalize takeL (isFail o0) lim l = l2 at cFail' cFailR' htl2
  generalize takeO (isFail o0) lim l = s2 at cFail' cFailR' hto2
  generalize ranks o0 lim l = rk at cRnd' cRndR' hrk
  generalize quMay lim l = mm at cChk' cMay'
  have cAdd := Lib.hid cAdd'
  have cAddR := Lib.hid cAddR'
  have cTake := Lib.hid cTake'
  have cTakeR := Lib.hid cTakeR'
  have cFail := Lib.hid cFail'
  have cFailR := Lib.hid cFailR'
  have cRnd := Lib.hid cRnd'
  have cRndR := Lib.hid cRndR'
  have cChk := Lib.hid cChk'
  have cMay := Lib.hid cMay'
  clear hW0 hg hln hr cAdd' cAddR' cTake' cTakeR' cFail' cFailR' cRnd' cRndR' cChk' cMay'
  unfold itA
  go_enter Tryd.func4, Tryd.ntmps4
  have hq1 := XQ.c2
  obtain ⟨q0, q1, -, -⟩ := hq1
  rw [HW.out] at q0 q1
  go_wp2_with fail
  rw [← HW.out]
  clear q0 q1
  refine (give_any lim A n c l W0 rq (by omega)).mono ?_
  rintro e w1 ⟨A1, n1, c1, rfl, ry, hb⟩
  unfold quA
  replace XQ := (XQ.below hb).alloc (.cells #[.int .i64 lim, .slice A1 n1 c1] 30)
  replace XX := (XX.below hb).alloc (.cells #[.int .i64 lim, .slice A1 n1 c1] 30)
  replace XO := (XO.below hb).alloc (.cells #[.int .i64 lim, .slice A1 n1 c1] 30)
  replace rq := (rq.below hb).alloc (.cells #[.int .i64 lim, .slice A1 n1 c1] 30)
  replace ry := ry.any.alloc (.cells #[.int .i64 lim, .slice A1 n1 c1] 30)
  replace hbe := (hbe.trans (hb.mono hbe.size)).alloc (hbe.trans (hb.mono hbe.size)).size (.cells #[.int .i64 lim, .slice A1 n1 c1] 30)
  have B1 := Bx.new w1 #[.int .i64 lim, .slice A1 n1 c1] 30 rfl
  clear hb
  have hn1 : n1 ≤ 1000000 := by have := ry.flen itc_len (by omega); have := Hln.out; omega
  obtain ⟨m0a, m0b, -, -⟩ := B1.c2
  obtain ⟨m1a, m1b, m1c, m1d, -, -, -, -⟩ := XX.c4
  go_wp2_with fail
  clear m0a m0b m1a m1b m1c m1d
  refine (cAdd.out _ A1 n1 c1 ry hn1).mono ?_
  rintro e w2 ⟨A2, n2, c2, rfl, ra, hb⟩
  unfold quA
  replace XQ := (XQ.below hb).alloc (.cells #[.int .i64 aL, .slice A2 n2 c2] 30)
  replace XX := (XX.below hb).alloc (.cells #[.int .i64 aL, .slice A2 n2 c2] 30)
  replace XO := (XO.below hb).alloc (.cells #[.int .i64 aL, .slice A2 n2 c2] 30)
  replace B1 := (B1.below hb).alloc (.cells #[.int .i64 aL, .slice A2 n2 c2] 30)
  replace rq := (rq.below hb).alloc (.cells #[.int .i64 aL, .slice A2 n2 c2] 30)
  replace ry := (ry.below hb).alloc (.cells #[.int .i64 aL, .slice A2 n2 c2] 30)
  replace ra := ra.any.alloc (.cells #[.int .i64 aL, .slice A2 n2 c2] 30)
  replace hbe := (hbe.trans (hb.mono hbe.size)).alloc (hbe.trans (hb.mono hbe.size)).size (.cells #[.int .i64 aL, .slice A2 n2 c2] 30)
  have B2 := Bx.new w2 #[.int .i64 aL, .slice A2 n2 c2] 30 rfl
  clear hb
  have hn2 : n2 ≤ 1000000 := by have := ra.flen itc_len (by omega); have := Hln.out; omega
  obtain ⟨m0a, m0b, -, -⟩ := XQ.c2
  obtain ⟨m1a, m1b, m1c, m1d, -, -, -, -⟩ := XX.c4
  go_wp2_with fail
  clear m0a m0b m1a m1b m1c m1d
  refine (cAddR.out _ rq (by omega)).mono ?_
  rintro e w3 ⟨A3, n3, c3, rfl, rb, hb⟩
  unfold quA
  replace XQ := (XQ.below hb).alloc (.cells #[.int .i64 aL, .slice A3 n3 c3] 24)
  replace XX := (XX.below hb).alloc (.cells #[.int .i64 aL, .slice A3 n3 c3] 24)
  replace XO := (XO.below hb).alloc (.cells #[.int .i64 aL, .slice A3 n3 c3] 24)
  replace B1 := (B1.below hb).alloc (.cells #[.int .i64 aL, .slice A3 n3 c3] 24)
  replace B2 := (B2.below hb).alloc (.cells #[.int .i64 aL, .slice A3 n3 c3] 24)
  replace rq := (rq.below hb).alloc (.cells #[.int .i64 aL, .slice A3 n3 c3] 24)
  replace ry := (ry.below hb).alloc (.cells #[.int .i64 aL, .slice A3 n3 c3] 24)
  replace ra := (ra.below hb).alloc (.cells #[.int .i64 aL, .slice A3 n3 c3] 24)
  replace rb := rb.any.alloc (.cells #[.int .i64 aL, .slice A3 n3 c3] 24)
  replace hbe := (hbe.trans (hb.mono hbe.size)).alloc (hbe.trans (hb.mono hbe.size)).size (.cells #[.int .i64 aL, .slice A3 n3 c3] 24)
  have B3 := Bx.new w3 #[.int .i64 aL, .slice A3 n3 c3] 24 rfl
  clear hb
  obtain ⟨m0a, m0b, -, -⟩ := B1.c2
  obtain ⟨m1a, m1b, m1c, -, -, -⟩ := XO.c3
  go_wp2_with fail
  clear m0a m0b m1a m1b m1c
  refine (cTake.out _ A1 n1 c1 ry hn1).mono ?_
  rintro e w4 ⟨A4, n4, c4, S4, m4, d4, rfl, rc, rs, hb⟩
  unfold quA
  replace XQ := (XQ.below hb).alloc (.cells #[.int .i64 tL, .slice A4 n4 c4] 30)
  replace XX := (XX.below hb).alloc (.cells #[.int .i64 tL, .slice A4 n4 c4] 30)
  replace XO := (XO.below hb).alloc (.cells #[.int .i64 tL, .slice A4 n4 c4] 30)
  replace B1 := (B1.below hb).alloc (.cells #[.int .i64 tL, .slice A4 n4 c4] 30)
  replace B2 := (B2.below hb).alloc (.cells #[.int .i64 tL, .slice A4 n4 c4] 30)
  replace B3 := (B3.below hb).alloc (.cells #[.int .i64 tL, .slice A4 n4 c4] 30)
  replace rq := (rq.below hb).alloc (.cells #[.int .i64 tL, .slice A4 n4 c4] 30)
  replace ry := (ry.below hb).alloc (.cells #[.int .i64 tL, .slice A4 n4 c4] 30)
  replace ra := (ra.below hb).alloc (.cells #[.int .i64 tL, .slice A4 n4 c4] 30)
  replace rb := (rb.below hb).alloc (.cells #[.int .i64 tL, .slice A4 n4 c4] 30)
  replace rc := rc.any.alloc (.cells #[.int .i64 tL, .slice A4 n4 c4] 30)
  replace rs := rs.any.alloc (.cells #[.int .i64 tL, .slice A4 n4 c4] 30)
  replace hbe := (hbe.trans (hb.mono hbe.size)).alloc (hbe.trans (hb.mono hbe.size)).size (.cells #[.int .i64 tL, .slice A4 n4 c4] 30)
  have B4 := Bx.new w4 #[.int .i64 tL, .slice A4 n4 c4] 30 rfl
  clear hb
  have hn4 : n4 ≤ 1000000 := by have := rc.flen itc_len (by omega); have := Hln.out; omega
  have hm4 : m4 ≤ 1000000 := by have := ii_len rs; have := Hln.out; omega
  obtain ⟨m0a, m0b, -, -⟩ := XQ.c2
  obtain ⟨m1a, m1b, m1c, -, -, -⟩ := XO.c3
  go_wp2_with fail
  clear m0a m0b m1a m1b m1c
  refine (cTakeR.out _ rq (by omega)).mono ?_
  rintro e w5 ⟨A5, n5, c5, S5, m5, d5, rfl, rd, rt, hb⟩
  unfold quA
  replace XQ := (XQ.below hb).alloc (.cells #[.int .i64 tL, .slice A5 n5 c5] 24)
  replace XX := (XX.below hb).alloc (.cells #[.int .i64 tL, .slice A5 n5 c5] 24)
  replace XO := (XO.below hb).alloc (.cells #[.int .i64 tL, .slice A5 n5 c5] 24)
  replace B1 := (B1.below hb).alloc (.cells #[.int .i64 tL, .slice A5 n5 c5] 24)
  replace B2 := (B2.below hb).alloc (.cells #[.int .i64 tL, .slice A5 n5 c5] 24)
  replace B3 := (B3.below hb).alloc (.cells #[.int .i64 tL, .slice A5 n5 c5] 24)
  replace B4 := (B4.below hb).alloc (.cells #[.int .i64 tL, .slice A5 n5 c5] 24)
  replace rq := (rq.below hb).alloc (.cells #[.int .i64 tL, .slice A5 n5 c5] 24)
  replace ry := (ry.below hb).alloc (.cells #[.int .i64 tL, .slice A5 n5 c5] 24)
  replace ra := (ra.below hb).alloc (.cells #[.int .i64 tL, .slice A5 n5 c5] 24)
  replace rb := (rb.below hb).alloc (.cells #[.int .i64 tL, .slice A5 n5 c5] 24)
  replace rc := (rc.below hb).alloc (.cells #[.int .i64 tL, .slice A5 n5 c5] 24)
  replace rs := (rs.below hb).alloc (.cells #[.int .i64 tL, .slice A5 n5 c5] 24)
  replace rd := rd.any.alloc (.cells #[.int .i64 tL, .slice A5 n5 c5] 24)
  replace rt := rt.any.alloc (.cells #[.int .i64 tL, .slice A5 n5 c5] 24)
  replace hbe := (hbe.trans (hb.mono hbe.size)).alloc (hbe.trans (hb.mono hbe.size)).size (.cells #[.int .i64 tL, .slice A5 n5 c5] 24)
  have B5 := Bx.new w5 #[.int .i64 tL, .slice A5 n5 c5] 24 rfl
  clear hb
  obtain ⟨m0a, m0b, -, -⟩ := B1.c2
  obtain ⟨m1a, m1b, m1c, -, -, -⟩ := XO.c3
  go_wp2_with fail
  clear m0a m0b m1a m1b m1c
  refine (cFail.out _ A1 n1 c1 ry hn1).mono ?_
  rintro e w6 ⟨A6, n6, c6, S6, m6, d6, rfl, ru, rv, hb⟩
  unfold quA
  replace XQ := (XQ.below hb).alloc (.cells #[.int .i64 tL, .slice A6 n6 c6] 30)
  replace XX := (XX.below hb).alloc (.cells #[.int .i64 tL, .slice A6 n6 c6] 30)
  replace XO := (XO.below hb).alloc (.cells #[.int .i64 tL, .slice A6 n6 c6] 30)
  replace B1 := (B1.below hb).alloc (.cells #[.int .i64 tL, .slice A6 n6 c6] 30)
  replace B2 := (B2.below hb).alloc (.cells #[.int .i64 tL, .slice A6 n6 c6] 30)
  replace B3 := (B3.below hb).alloc (.cells #[.int .i64 tL, .slice A6 n6 c6] 30)
  replace B4 := (B4.below hb).alloc (.cells #[.int .i64 tL, .slice A6 n6 c6] 30)
  replace B5 := (B5.below hb).alloc (.cells #[.int .i64 tL, .slice A6 n6 c6] 30)
  replace rq := (rq.below hb).alloc (.cells #[.int .i64 tL, .slice A6 n6 c6] 30)
  replace ry := (ry.below hb).alloc (.cells #[.int .i64 tL, .slice A6 n6 c6] 30)
  replace ra := (ra.below hb).alloc (.cells #[.int .i64 tL, .slice A6 n6 c6] 30)
  replace rb := (rb.below hb).alloc (.cells #[.int .i64 tL, .slice A6 n6 c6] 30)
  replace rc := (rc.below hb).alloc (.cells #[.int .i64 tL, .slice A6 n6 c6] 30)
  replace rs := (rs.below hb).alloc (.cells #[.int .i64 tL, .slice A6 n6 c6] 30)
  replace rd := (rd.below hb).alloc (.cells #[.int .i64 tL, .slice A6 n6 c6] 30)
  replace rt := (rt.below hb).alloc (.cells #[.int .i64 tL, .slice A6 n6 c6] 30)
  replace ru := ru.any.alloc (.cells #[.int .i64 tL, .slice A6 n6 c6] 30)
  replace rv := rv.any.alloc (.cells #[.int .i64 tL, .slice A6 n6 c6] 30)
  replace hbe := (hbe.trans (hb.mono hbe.size)).alloc (hbe.trans (hb.mono hbe.size)).size (.cells #[.int .i64 tL, .slice A6 n6 c6] 30)
  have B6 := Bx.new w6 #[.int .i64 tL, .slice A6 n6 c6] 30 rfl
  clear hb
  have hn6 : n6 ≤ 1000000 := by have := ru.flen itc_len (by omega); have := Hln.out; omega
  have hm6 : m6 ≤ 1000000 := by have := ii_len rv; have := Hln.out; omega
  obtain ⟨m0a, m0b, -, -⟩ := XQ.c2
  obtain ⟨m1a, m1b, m1c, -, -, -⟩ := XO.c3
  go_wp2_with fail
  clear m0a m0b m1a m1b m1c
  refine (cFailR.out _ rq (by omega)).mono ?_
  rintro e w7 ⟨A7, n7, c7, S7, m7, d7, rfl, rw7, rz, hb⟩
  unfold quA
  replace XQ := (XQ.below hb).alloc (.cells #[.int .i64 tL, .slice A7 n7 c7] 24)
  replace XX := (XX.below hb).alloc (.cells #[.int .i64 tL, .slice A7 n7 c7] 24)
  replace XO := (XO.below hb).alloc (.cells #[.int .i64 tL, .slice A7 n7 c7] 24)
  replace B1 := (B1.below hb).alloc (.cells #[.int .i64 tL, .slice A7 n7 c7] 24)
  replace B2 := (B2.below hb).alloc (.cells #[.int .i64 tL, .slice A7 n7 c7] 24)
  replace B3 := (B3.below hb).alloc (.cells #[.int .i64 tL, .slice A7 n7 c7] 24)
  replace B4 := (B4.below hb).alloc (.cells #[.int .i64 tL, .slice A7 n7 c7] 24)
  replace B5 := (B5.below hb).alloc (.cells #[.int .i64 tL, .slice A7 n7 c7] 24)
  replace B6 := (B6.below hb).alloc (.cells #[.int .i64 tL, .slice A7 n7 c7] 24)
  replace rq := (rq.below hb).alloc (.cells #[.int .i64 tL, .slice A7 n7 c7] 24)
  replace ry := (ry.below hb).alloc (.cells #[.int .i64 tL, .slice A7 n7 c7] 24)
  replace ra := (ra.below hb).alloc (.cells #[.int .i64 tL, .slice A7 n7 c7] 24)
  replace rb := (rb.below hb).alloc (.cells #[.int .i64 tL, .slice A7 n7 c7] 24)
  replace rc := (rc.below hb).alloc (.cells #[.int .i64 tL, .slice A7 n7 c7] 24)
  replace rs := (rs.below hb).alloc (.cells #[.int .i64 tL, .slice A7 n7 c7] 24)
  replace rd := (rd.below hb).alloc (.cells #[.int .i64 tL, .slice A7 n7 c7] 24)
  replace rt := (rt.below hb).alloc (.cells #[.int .i64 tL, .slice A7 n7 c7] 24)
  replace ru := (ru.below hb).alloc (.cells #[.int .i64 tL, .slice A7 n7 c7] 24)
  replace rv := (rv.below hb).alloc (.cells #[.int .i64 tL, .slice A7 n7 c7] 24)
  replace rw7 := rw7.any.alloc (.cells #[.int .i64 tL, .slice A7 n7 c7] 24)
  replace rz := rz.any.alloc (.cells #[.int .i64 tL, .slice A7 n7 c7] 24)
  replace hbe := (hbe.trans (hb.mono hbe.size)).alloc (hbe.trans (hb.mono hbe.size)).size (.cells #[.int .i64 tL, .slice A7 n7 c7] 24)
  have B7 := Bx.new w7 #[.int .i64 tL, .slice A7 n7 c7] 24 rfl
  clear hb
  go_wp2_with fail
  obtain ⟨V, hV⟩ : ∃ V, V = w7.alloc (.cells #[.int .i64 tL, .slice A7 n7 c7] 24) := ⟨_, rfl⟩
  rw [← hV] at XQ XX XO B1 B2 B3 B4 B5 B6 B7 rq ry ra rb rc rs rd rt ru rv rw7 rz hbe ⊢
  have sof : ∀ W, Below V.heap.size V W → (Below V.heap.size V W ∧ W.cell? ⟨w.heap.size + 1 + 1, 0, none⟩ = some (.int .i64 o0) ∧ W.cell? ⟨w.heap.size, 0, none⟩ = some (.int .i64 lim) ∧ W.cell? ⟨w.heap.size, 1, none⟩ = some (.slice A n c) ∧ W.cell? ⟨w1.heap.size, 0, none⟩ = some (.int .i64 lim) ∧ W.cell? ⟨w1.heap.size, 1, none⟩ = some (.slice A1 n1 c1) ∧ W.cell? ⟨w2.heap.size, 0, none⟩ = some (.int .i64 aL) ∧ W.cell? ⟨w2.heap.size, 1, none⟩ = some (.slice A2 n2 c2) ∧ W.cell? ⟨w3.heap.size, 0, none⟩ = some (.int .i64 aL) ∧ W.cell? ⟨w3.heap.size, 1, none⟩ = some (.slice A3 n3 c3) ∧ W.cell? ⟨w4.heap.size, 0, none⟩ = some (.int .i64 tL) ∧ W.cell? ⟨w4.heap.size, 1, none⟩ = some (.slice A4 n4 c4) ∧ W.cell? ⟨w5.heap.size, 0, none⟩ = some (.int .i64 tL) ∧ W.cell? ⟨w5.heap.size, 1, none⟩ = some (.slice A5 n5 c5) ∧ W.cell? ⟨w6.heap.size, 0, none⟩ = some (.int .i64 tL) ∧ W.cell? ⟨w6.heap.size, 1, none⟩ = some (.slice A6 n6 c6) ∧ W.cell? ⟨w7.heap.size, 0, none⟩ = some (.int .i64 tL) ∧ W.cell? ⟨w7.heap.size, 1, none⟩ = some (.slice A7 n7 c7)) := fun W hb => ⟨hb, (XO.below hb).c 0, (XQ.below hb).c 0, (XQ.below hb).c 1, (B1.below hb).c 0, (B1.below hb).c 1, (B2.below hb).c 0, (B2.below hb).c 1, (B3.below hb).c 0, (B3.below hb).c 1, (B4.below hb).c 0, (B4.below hb).c 1, (B5.below hb).c 0, (B5.below hb).c 1, (B6.below hb).c 0, (B6.below hb).c 1, (B7.below hb).c 0, (B7.below hb).c 1⟩
  have HV := Lib.hid hV
  clear hV
  have HS1' : ∀ W, Below V.heap.size V W → Calls Tryd.prog 9 #[.agg #[.int .i64 aL, .slice A2 n2 c2], .agg #[.int .i64 aL, .slice A3 n3 c3]] W (BoolPost W true) := fun W hb => same_any aL A2 n2 c2 A3 n3 c3 _ W (ra.below hb) (rb.below hb) hn2
  have HS1 := Lib.hid HS1'
  clear HS1'
  have HS2' : ∀ W, Below V.heap.size V W → Calls Tryd.prog 9 #[.agg #[.int .i64 tL, .slice A4 n4 c4], .agg #[.int .i64 tL, .slice A5 n5 c5]] W (BoolPost W true) := fun W hb => same_any tL A4 n4 c4 A5 n5 c5 _ W (rc.below hb) (rd.below hb) hn4
  have HS2 := Lib.hid HS2'
  clear HS2'
  have HS3' : ∀ W, Below V.heap.size V W → Calls Tryd.prog 9 #[.agg #[.int .i64 tL, .slice A6 n6 c6], .agg #[.int .i64 tL, .slice A7 n7 c7]] W (BoolPost W true) := fun W hb => same_any tL A6 n6 c6 A7 n7 c7 _ W (ru.below hb) (rw7.below hb) hn6
  have HS3 := Lib.hid HS3'
  clear HS3'
  have HS4' : ∀ W, Below V.heap.size V W → Calls Tryd.prog 9 #[.agg #[.int .i64 lim, .slice A1 n1 c1], .agg #[.int .i64 lim, .slice A n c]] W (BoolPost W true) := fun W hb => same_any lim A1 n1 c1 A n c _ W (ry.below hb) (rq.below hb) hn1
  have HS4 := Lib.hid HS4'
  clear HS4'
  have HI1' : ∀ W, Below V.heap.size V W → Calls Tryd.prog 16 #[.slice S4 m4 d4, .slice S5 m5 d5] W (BoolPost W true) := fun W hb => by
    have := ints_any S4 m4 d4 S5 m5 d5 _ _ W (rs.below hb) (rt.below hb) (by omega)
    simpa using this
  have HI1 := Lib.hid HI1'
  clear HI1'
  have HI2' : ∀ W, Below V.heap.size V W → Calls Tryd.prog 16 #[.slice S6 m6 d6, .slice S7 m7 d7] W (BoolPost W true) := fun W hb => by
    have := ints_any S6 m6 d6 S7 m7 d7 _ _ W (rv.below hb) (rz.below hb) (by omega)
    simpa using this
  have HI2 := Lib.hid HI2'
  clear HI2'
  have HI3' : ∀ (W : World) (P1 P2 : Option Addr) (j1 e1 j2 e2 : Nat) (z1 z2 : Nat → Prop), Rd W z1 1 P1 j1 (ii (rk)) → Rd W z2 1 P2 j2 (ii (rk)) → Calls Tryd.prog 16 #[.slice P1 j1 e1, .slice P2 j2 e2] W (BoolPost W true) := by
    intro W P1 P2 j1 e1 j2 e2 z1 z2 h1 h2
    have h3 := ii_len h1
    have h4 := hrk
    have h5 := Hln.out
    have := ints_any P1 j1 e1 P2 j2 e2 (rk) (rk) W h1 h2 (by omega)
    simpa using this
  have HI3 := Lib.hid HI3'
  have HR' : ∀ W, Below V.heap.size V W → Calls Tryd.prog 17 #[.agg #[.int .i64 lim, .slice A1 n1 c1], .int .i64 o0] W (NumsPost W (rk)) := fun W hb => cRnd.out W A1 n1 c1 (ry.below hb) hn1
  have HR := Lib.hid HR'
  have HRR' : ∀ W, Below V.heap.size V W → Calls Tryd.prog 18 #[.agg #[.int .i64 lim, .slice A n c], .int .i64 o0] W (NumsPost W (rk)) := fun W hb => cRndR.out W (rq.below hb) (by omega)
  have HRR := Lib.hid HRR'
  have HN' : ∀ W, Below V.heap.size V W → Calls Tryd.prog 10 #[errV aK] W (fun e w' => e = .returned (.int .i64 aK) ∧ Below W.heap.size W w') := fun W hb => num_any _ W ((Hg.out.below hbe).below hb)
  have HN := Lib.hid HN'
  have hck : ∀ W, Below V.heap.size V W → Calls Tryd.prog 14 #[.agg #[.int .i64 lim, .slice A1 n1 c1]] W _ := fun W hb => cChk.out W A1 n1 c1 (ry.below hb) hn1
  have hmy : ∀ W, Below V.heap.size V W → Calls Tryd.prog 15 #[.agg #[.int .i64 lim, .slice A n c]] W (BoolPost W mm) := fun W hb => cMay.out W (rq.below hb) (by omega)
  clear HI3' HR' HRR' HN' XQ XX XO B1 B2 B3 B4 B5 B6 B7
  rcases Bool.eq_false_or_eq_true mm with hmm | hmm
  · rw [hmm] at hck hmy
    have Hck := Lib.hid hck
    have Hmy := Lib.hid hmy
    clear hck hmy hmm
    simp only [if_true, Bool.false_eq_true, if_false] at Hck
    go_region_held3 (fun W => Below V.heap.size V W ∧ W.cell? ⟨w.heap.size + 1 + 1, 0, none⟩ = some (.int .i64 o0) ∧ W.cell? ⟨w.heap.size, 0, none⟩ = some (.int .i64 lim) ∧ W.cell? ⟨w.heap.size, 1, none⟩ = some (.slice A n c) ∧ W.cell? ⟨w1.heap.size, 0, none⟩ = some (.int .i64 lim) ∧ W.cell? ⟨w1.heap.size, 1, none⟩ = some (.slice A1 n1 c1) ∧ W.cell? ⟨w2.heap.size, 0, none⟩ = some (.int .i64 aL) ∧ W.cell? ⟨w2.heap.size, 1, none⟩ = some (.slice A2 n2 c2) ∧ W.cell? ⟨w3.heap.size, 0, none⟩ = some (.int .i64 aL) ∧ W.cell? ⟨w3.heap.size, 1, none⟩ = some (.slice A3 n3 c3) ∧ W.cell? ⟨w4.heap.size, 0, none⟩ = some (.int .i64 tL) ∧ W.cell? ⟨w4.heap.size, 1, none⟩ = some (.slice A4 n4 c4) ∧ W.cell? ⟨w5.heap.size, 0, none⟩ = some (.int .i64 tL) ∧ W.cell? ⟨w5.heap.size, 1, none⟩ = some (.slice A5 n5 c5) ∧ W.cell? ⟨w6.heap.size, 0, none⟩ = some (.int .i64 tL) ∧ W.cell? ⟨w6.heap.size, 1, none⟩ = some (.slice A6 n6 c6) ∧ W.cell? ⟨w7.heap.size, 0, none⟩ = some (.int .i64 tL) ∧ W.cell? ⟨w7.heap.size, 1, none⟩ = some (.slice A7 n7 c7)) ((refine sof _ ?_; first | exact (Below.refl _ _).drew | (go_split_ands; exact Below.trans (by assumption) (Below.mono (by assumption) (Below.size (by assumption)))))) (first
      | (go_at_call 14; refine (Hck.out _ (by first | exact (Below.refl _ _).drew | (go_split_ands; assumption))).mono ?_; rintro e u1 ⟨rfl, hc1⟩)
      | (go_at_call 15; refine (Hmy.out _ (by first | exact (Below.refl _ _).drew | (go_split_ands; assumption))).mono ?_; rintro e u2 ⟨rfl, hc2⟩)
      | (go_at_call 9; have _t := hc12; refine (HS4.out _ (by go_split_ands; assumption)).mono ?_; rintro e u6 ⟨rfl, hc6⟩)
      | (go_at_call 9; have _t := hc8; refine (HS3.out _ (by go_split_ands; assumption)).mono ?_; rintro e u5 ⟨rfl, hc5⟩)
      | (go_at_call 9; have _t := hc7; refine (HS2.out _ (by go_split_ands; assumption)).mono ?_; rintro e u4 ⟨rfl, hc4⟩)
      | (go_at_call 9; refine (HS1.out _ (by go_split_ands; assumption)).mono ?_; rintro e u3 ⟨rfl, hc3⟩)
      | (go_at_call 10; refine (HN.out _ (by go_split_ands; assumption)).mono ?_; rintro e u7 ⟨rfl, hc7⟩)
      | (go_at_call 16; have _t := hc9; refine (HI3.out _ P1 P2 j1 e1 j2 e2 _ _ (by first | exact ra1 | exact ra1.below (by assumption)) (by first | exact ra2 | exact ra2.below (by assumption))).mono ?_; rintro e u12 ⟨rfl, hc12⟩)
      | (go_at_call 16; have _t := hc5; refine (HI2.out _ (by go_split_ands; assumption)).mono ?_; rintro e u9 ⟨rfl, hc9⟩)
      | (go_at_call 16; refine (HI1.out _ (by go_split_ands; assumption)).mono ?_; rintro e u8 ⟨rfl, hc8⟩)
      | (go_at_call 17; refine (HR.out _ (by go_split_ands; assumption)).mono ?_; rintro e u10 ⟨P1, j1, e1, rfl, ra1, hc10⟩)
      | (go_at_call 18; refine (HRR.out _ (by go_split_ands; assumption)).mono ?_; rintro e u11 ⟨P2, j2, e2, rfl, ra2, hc11⟩)
      | (go_at_call 5; refine (sure_any _).mono ?_; rintro e u13 ⟨rfl, hc13⟩))
    all_goals
      go_wp2_with fail
      go_ret
      exact ⟨rfl, hbe.trans (Below.mono (by go_split_ands; assumption) hbe.size)⟩
  · rw [hmm] at hck hmy
    have Hck := Lib.hid hck
    have Hmy := Lib.hid hmy
    clear hck hmy hmm
    simp only [if_true, Bool.false_eq_true, if_false] at Hck
    go_region_held3 (fun W => Below V.heap.size V W ∧ W.cell? ⟨w.heap.size + 1 + 1, 0, none⟩ = some (.int .i64 o0) ∧ W.cell? ⟨w.heap.size, 0, none⟩ = some (.int .i64 lim) ∧ W.cell? ⟨w.heap.size, 1, none⟩ = some (.slice A n c) ∧ W.cell? ⟨w1.heap.size, 0, none⟩ = some (.int .i64 lim) ∧ W.cell? ⟨w1.heap.size, 1, none⟩ = some (.slice A1 n1 c1) ∧ W.cell? ⟨w2.heap.size, 0, none⟩ = some (.int .i64 aL) ∧ W.cell? ⟨w2.heap.size, 1, none⟩ = some (.slice A2 n2 c2) ∧ W.cell? ⟨w3.heap.size, 0, none⟩ = some (.int .i64 aL) ∧ W.cell? ⟨w3.heap.size, 1, none⟩ = some (.slice A3 n3 c3) ∧ W.cell? ⟨w4.heap.size, 0, none⟩ = some (.int .i64 tL) ∧ W.cell? ⟨w4.heap.size, 1, none⟩ = some (.slice A4 n4 c4) ∧ W.cell? ⟨w5.heap.size, 0, none⟩ = some (.int .i64 tL) ∧ W.cell? ⟨w5.heap.size, 1, none⟩ = some (.slice A5 n5 c5) ∧ W.cell? ⟨w6.heap.size, 0, none⟩ = some (.int .i64 tL) ∧ W.cell? ⟨w6.heap.size, 1, none⟩ = some (.slice A6 n6 c6) ∧ W.cell? ⟨w7.heap.size, 0, none⟩ = some (.int .i64 tL) ∧ W.cell? ⟨w7.heap.size, 1, none⟩ = some (.slice A7 n7 c7)) ((refine sof _ ?_; first | exact (Below.refl _ _).drew | (go_split_ands; exact Below.trans (by assumption) (Below.mono (by assumption) (Below.size (by assumption)))))) (first
      | (go_at_call 14; refine (Hck.out _ (by first | exact (Below.refl _ _).drew | (go_split_ands; assumption))).mono ?_; rintro e u1 ⟨rfl, hc1⟩)
      | (go_at_call 15; refine (Hmy.out _ (by first | exact (Below.refl _ _).drew | (go_split_ands; assumption))).mono ?_; rintro e u2 ⟨rfl, hc2⟩)
      | (go_at_call 9; have _t := hc12; refine (HS4.out _ (by go_split_ands; assumption)).mono ?_; rintro e u6 ⟨rfl, hc6⟩)
      | (go_at_call 9; have _t := hc8; refine (HS3.out _ (by go_split_ands; assumption)).mono ?_; rintro e u5 ⟨rfl, hc5⟩)
      | (go_at_call 9; have _t := hc7; refine (HS2.out _ (by go_split_ands; assumption)).mono ?_; rintro e u4 ⟨rfl, hc4⟩)
      | (go_at_call 9; refine (HS1.out _ (by go_split_ands; assumption)).mono ?_; rintro e u3 ⟨rfl, hc3⟩)
      | (go_at_call 10; refine (HN.out _ (by go_split_ands; assumption)).mono ?_; rintro e u7 ⟨rfl, hc7⟩)
      | (go_at_call 16; have _t := hc9; refine (HI3.out _ P1 P2 j1 e1 j2 e2 _ _ (by first | exact ra1 | exact ra1.below (by assumption)) (by first | exact ra2 | exact ra2.below (by assumption))).mono ?_; rintro e u12 ⟨rfl, hc12⟩)
      | (go_at_call 16; have _t := hc5; refine (HI2.out _ (by go_split_ands; assumption)).mono ?_; rintro e u9 ⟨rfl, hc9⟩)
      | (go_at_call 16; refine (HI1.out _ (by go_split_ands; assumption)).mono ?_; rintro e u8 ⟨rfl, hc8⟩)
      | (go_at_call 17; refine (HR.out _ (by go_split_ands; assumption)).mono ?_; rintro e u10 ⟨P1, j1, e1, rfl, ra1, hc10⟩)
      | (go_at_call 18; refine (HRR.out _ (by go_split_ands; assumption)).mono ?_; rintro e u11 ⟨P2, j2, e2, rfl, ra2, hc11⟩)
      | (go_at_call 5; refine (sure_any _).mono ?_; rintro e u13 ⟨rfl, hc13⟩))
    all_goals
      go_wp2_with fail
      go_ret
      exact ⟨rfl, hbe.trans (Below.mono (by go_split_ands; assumption) hbe.size)⟩
end Go.Proofs.YtodjjcnidgmkmaaDoor
