/- Walk of tollbarlaw10.ConfTurns. -/
import Derived.Test.YtedcjakgdoiomaaMem
import Derived.Test.YtedcjakgdoiomaaLow
import Derived.Test.YtedcjakgdoiomaaChk
import Derived.Test.YtedcjakgdoiomaaInts
import Derived.Test.YtedcjakgdoiomaaSure
import Derived.Test.YtedcjakgdoiomaaConf3
namespace Go.Proofs.Ytedcjakgdoiomaa
open Go.RowKit
set_option maxRecDepth 100000
set_option linter.unusedVariables false
set_option linter.unusedSimpArgs false
theorem ModPost.yes {W w' : World} {e : Ending} {l : List Int} {n : Nat} (h : ModPost W (0, l) e w') (hl : l.length = n) : ∃ A c, e = .returned (.tuple #[.slice A n c, .nilIface]) ∧ Rd w' T 1 A n (ii l) ∧ Below W.heap.size W w' := by
  subst hl
  obtain ⟨A, c, rfl, h1, h2⟩ := h
  exact ⟨A, c, rfl, (Rd.of_own h1).any, h2⟩
theorem ModPost.no {W w' : World} {e : Ending} {r : Int × List Int} (h : ModPost W r e w') (hk : r.1 ≠ 0) : ∃ A c, e = .returned (.tuple #[.slice A r.2.length c, .iface 50 (.int .i64 r.1)]) ∧ Below W.heap.size W w' := by
  obtain ⟨A, c, rfl, h1, h2⟩ := h
  refine ⟨A, c, ?_, h2⟩
  unfold errC
  rw [if_neg hk]
theorem turns_far (A : Option Addr) (n c : Nat) (z : Int) (w : World) (h : 300 < (n : Int)) :
    Calls Try.prog 9 #[.slice A n c, .int .i64 z] w (YesPost w) := by
  go_enter Try.func9, Try.ntmps9
  go_wp2_with fail
  refine (sure_any _).mono ?_
  rintro e w1 ⟨rfl, hb1⟩
  go_wp2_with fail
  go_ret
  exact ⟨rfl, hb1⟩
theorem turns_bad (A : Option Addr) (n c : Nat) (l : List Int) (z : Int) (w : World) {ok : Nat → Prop} (hr : Rd w ok 1 A n (ii l)) (hn : (n : Int) ≤ 300) (hc : cmay l = false) :
    Calls Try.prog 9 #[.slice A n c, .int .i64 z] w (YesPost w) := by
  have hnd : decide (300 < (n : Int)) = false := decide_eq_false (by omega)
  have hown := own_any A n c l w hr (by omega)
  have hchk := fun W A c (h : Rd W T 1 A n (ii l)) => chk_any A n c l W h (by omega)
  rw [hc] at hchk
  have Hown := Lib.hid hown
  have Hchk := Lib.hid hchk
  clear hown hchk hr hc
  go_enter Try.func9, Try.ntmps9
  go_wp2_with fail
  refine Hown.out.mono ?_
  rintro e w1 ⟨A1, c1, rfl, ho1, hb⟩
  have R1 := Lib.hid (Rd.of_own ho1).any
  clear ho1
  go_wp2_with fail
  refine (Hchk.out w1 A1 c1 R1.out).mono ?_
  rintro e w2 ⟨rfl, rfl⟩
  go_wp2_with fail
  refine (sure_any _).mono ?_
  rintro e w2 ⟨rfl, hb1⟩
  go_wp2_with fail
  go_ret
  exact ⟨rfl, hb.trans (hb1.mono hb.size)⟩
set_option maxHeartbeats 1600000 in
theorem turns_add (A : Option Addr) (n c : Nat) (l : List Int) (z : Int) (w : World) {ok : Nat → Prop} (hr : Rd w ok 1 A n (ii l)) (hn : (n : Int) ≤ 300) (hc : cmay l = true) (ha : (addOf l z).1 = 0) (hm : (remOf l z).1 ≠ 0) :
    Calls Try.prog 9 #[.slice A n c, .int .i64 z] w (YesPost w) := by
  have hnd : decide (300 < (n : Int)) = false := decide_eq_false (by omega)
  have hll := ii_len hr
  have hone := turn_one (z := z) hc
  have hown := fun (W : World) (hb : Below w.heap.size w W) => own_any A n c l W (hr.below hb) (by omega)
  have hchk := fun W A c (h : Rd W T 1 A n (ii l)) => chk_any A n c l W h (by omega)
  rw [hc] at hchk
  have hadd := fun W A c (h : Rd W T 1 A n (ii l)) => add_any A n c l z W h (by omega)
  have hrem := fun W A c (h : Rd W T 1 A n (ii l)) => rem_any A n c l z W h (by omega)
  have hints := fun W B d (hb : Below w.heap.size w W) (h : Rd W T 1 B n (ii l)) => ints_any B n d A n c l l W h (hr.below hb) (by omega)
  simp only [decide_true] at hints
  obtain ⟨t1, t2, t3, t4⟩ := turn_add ha
  obtain ⟨t5, _, _, _, _, t6⟩ := addOf_zero ha
  rw [t5] at hadd t1 t2 t3 t4
  have hL : (ins z l).length ≤ 1000000 := by rw [ins_length]; omega
  generalize ins z l = L at hadd t1 t2 t3 t4 hL
  obtain ⟨m, hm1⟩ : ∃ m, L.length = m := ⟨_, rfl⟩
  rw [hm1] at hL
  have hback := fun W A c (h : Rd W T 1 A m (ii L)) => rem_any A m c L z W h hL
  rw [t1] at hback
  have hnear := fun W A c B d (h1 : Rd W T 1 A m (ii L)) (h2 : Rd W T 1 B n (ii l)) => near_any A m c L B n d l W h1 hL h2 (by omega)
  rw [t2] at hnear
  have hhas := fun W A c (h : Rd W T 1 A m (ii L)) => hasM_any A m c L z W h hL
  rw [t3, decide_eq_true t4] at hhas
  have hmI : (m : Int) ≤ 1000000 := by omega
  have Hm := Lib.hid hm
  have Hown := Lib.hid hown
  have Hchk := Lib.hid hchk
  have Hadd := Lib.hid hadd
  have Hrem := Lib.hid hrem
  have Hints := Lib.hid hints
  have Hll := Lib.hid hll
  have Hone := Lib.hid hone
  have Hback := Lib.hid hback
  have Hnear := Lib.hid hnear
  have Hhas := Lib.hid hhas
  have Hm1 := Lib.hid hm1
  clear hown hchk hadd hrem hints hll hone hr hc ha hm hback hnear hhas hm1 t1 t2 t3 t4 t5 t6
  go_enter Try.func9, Try.ntmps9
  go_wp2_with fail
  refine (Hown.out w (Below.refl _ _)).mono ?_
  rintro e w1 ⟨A1, c1, rfl, ho1, hb⟩
  have R1 := Lib.hid (Rd.of_own ho1).any
  clear ho1
  go_wp2_with fail
  refine (Hchk.out w1 A1 c1 R1.out).mono ?_
  rintro e w2 ⟨rfl, rfl⟩
  clear R1
  go_wp2_with fail
  refine (Hown.out _ hb).mono ?_
  rintro e w2 ⟨A2, c2, rfl, ho1, hb2⟩
  have R2 := Lib.hid (Rd.of_own ho1).any
  replace hb := hb.trans (hb2.mono hb.size)
  clear ho1 hb2
  go_wp2_with fail
  refine (Hadd.out w2 A2 c2 R2.out).mono ?_
  rintro e w3 hp
  obtain ⟨A3, c3, rfl, hq, hb2⟩ := hp.yes Hm1.out
  have R3 := Lib.hid hq
  replace hb := hb.trans (hb2.mono hb.size)
  clear hp hq hb2 R2
  go_wp2_with fail
  refine (Hback.out w3 A3 c3 R3.out).mono ?_
  rintro e w4 hp
  obtain ⟨A4, c4, rfl, hq, hb2⟩ := hp.yes Hll.out
  have R4 := Lib.hid hq
  replace R3 := Lib.hid (R3.out.below hb2)
  replace hb := hb.trans (hb2.mono hb.size)
  clear hp hq hb2
  go_wp2_with fail
  refine (Hints.out w4 A4 c4 hb R4.out).mono ?_
  rintro e w5 ⟨rfl, hb2⟩
  replace R3 := Lib.hid (R3.out.below hb2)
  replace hb := hb.trans (hb2.mono hb.size)
  clear hb2 R4
  go_wp2_with fail
  refine (Hown.out _ hb).mono ?_
  rintro e w6 ⟨A6, c6, rfl, ho1, hb2⟩
  have R6 := Lib.hid (Rd.of_own ho1).any
  replace R3 := Lib.hid (R3.out.below hb2)
  replace hb := hb.trans (hb2.mono hb.size)
  clear ho1 hb2
  go_wp2_with fail
  refine (Hnear.out w6 A3 c3 A6 c6 R3.out R6.out).mono ?_
  rintro e w7 ⟨rfl, rfl⟩
  go_wp2_with fail
  refine (Hhas.out w6 A3 c3 R3.out).mono ?_
  rintro e w7 ⟨rfl, rfl⟩
  clear R3 R6
  go_wp2_with fail
  refine (Hown.out _ hb).mono ?_
  rintro e w8 ⟨A8, c8, rfl, ho1, hb2⟩
  have R8 := Lib.hid (Rd.of_own ho1).any
  replace hb := hb.trans (hb2.mono hb.size)
  clear ho1 hb2
  go_wp2_with fail
  refine (Hrem.out w8 A8 c8 R8.out).mono ?_
  rintro e w9 hp
  obtain ⟨A9, c9, rfl, hb2⟩ := hp.no Hm.out
  replace hb := hb.trans (hb2.mono hb.size)
  clear hp hb2 R8
  go_wp2_with fail
  refine (sure_any _).mono ?_
  rintro e w15 ⟨rfl, hb2⟩
  go_wp2_with fail
  go_ret
  exact ⟨rfl, hb.trans (hb2.mono hb.size)⟩
set_option maxHeartbeats 1600000 in
theorem turns_rem (A : Option Addr) (n c : Nat) (l : List Int) (z : Int) (w : World) {ok : Nat → Prop} (hr : Rd w ok 1 A n (ii l)) (hn : (n : Int) ≤ 300) (hc : cmay l = true) (ha : (addOf l z).1 ≠ 0) (hm : (remOf l z).1 = 0) :
    Calls Try.prog 9 #[.slice A n c, .int .i64 z] w (YesPost w) := by
  have hnd : decide (300 < (n : Int)) = false := decide_eq_false (by omega)
  have hll := ii_len hr
  have hone := turn_one (z := z) hc
  have hown := fun (W : World) (hb : Below w.heap.size w W) => own_any A n c l W (hr.below hb) (by omega)
  have hchk := fun W A c (h : Rd W T 1 A n (ii l)) => chk_any A n c l W h (by omega)
  rw [hc] at hchk
  have hadd := fun W A c (h : Rd W T 1 A n (ii l)) => add_any A n c l z W h (by omega)
  have hrem := fun W A c (h : Rd W T 1 A n (ii l)) => rem_any A n c l z W h (by omega)
  have hints := fun W B d (hb : Below w.heap.size w W) (h : Rd W T 1 B n (ii l)) => ints_any B n d A n c l l W h (hr.below hb) (by omega)
  simp only [decide_true] at hints
  obtain ⟨t1, t2, t3⟩ := turn_rem hm
  obtain ⟨t5, _, t7, t6⟩ := remOf_zero hm
  rw [t5] at hrem t1 t2 t3
  have hL : (del z l).length ≤ 1000000 := by have := del_length (cmay_iff.1 hc).2.1 t7; omega
  generalize del z l = L at hrem t1 t2 t3 hL
  obtain ⟨m, hm1⟩ : ∃ m, L.length = m := ⟨_, rfl⟩
  rw [hm1] at hL
  have hback := fun W A c (h : Rd W T 1 A m (ii L)) => add_any A m c L z W h hL
  rw [t1] at hback
  have hnear := fun W A c B d (h1 : Rd W T 1 A m (ii L)) (h2 : Rd W T 1 B n (ii l)) => near_any A m c L B n d l W h1 hL h2 (by omega)
  rw [t2] at hnear
  have hhas := fun W A c (h : Rd W T 1 A m (ii L)) => hasM_any A m c L z W h hL
  rw [decide_eq_false t3, Bool.and_false] at hhas
  have hmI : (m : Int) ≤ 1000000 := by omega
  have Ha := Lib.hid ha
  have Hown := Lib.hid hown
  have Hchk := Lib.hid hchk
  have Hadd := Lib.hid hadd
  have Hrem := Lib.hid hrem
  have Hints := Lib.hid hints
  have Hll := Lib.hid hll
  have Hone := Lib.hid hone
  have Hback := Lib.hid hback
  have Hnear := Lib.hid hnear
  have Hhas := Lib.hid hhas
  have Hm1 := Lib.hid hm1
  clear hown hchk hadd hrem hints hll hone hr hc ha hm hback hnear hhas hm1 t1 t2 t3 t5 t6 t7
  go_enter Try.func9, Try.ntmps9
  go_wp2_with fail
  refine (Hown.out w (Below.refl _ _)).mono ?_
  rintro e w1 ⟨A1, c1, rfl, ho1, hb⟩
  have R1 := Lib.hid (Rd.of_own ho1).any
  clear ho1
  go_wp2_with fail
  refine (Hchk.out w1 A1 c1 R1.out).mono ?_
  rintro e w2 ⟨rfl, rfl⟩
  clear R1
  go_wp2_with fail
  refine (Hown.out _ hb).mono ?_
  rintro e w2 ⟨A2, c2, rfl, ho1, hb2⟩
  have R2 := Lib.hid (Rd.of_own ho1).any
  replace hb := hb.trans (hb2.mono hb.size)
  clear ho1 hb2
  go_wp2_with fail
  refine (Hadd.out w2 A2 c2 R2.out).mono ?_
  rintro e w3 hp
  obtain ⟨A3, c3, rfl, hb2⟩ := hp.no Ha.out
  replace hb := hb.trans (hb2.mono hb.size)
  clear hp hb2 R2
  go_wp2_with fail
  refine (Hown.out _ hb).mono ?_
  rintro e w8 ⟨A8, c8, rfl, ho1, hb2⟩
  have R8 := Lib.hid (Rd.of_own ho1).any
  replace hb := hb.trans (hb2.mono hb.size)
  clear ho1 hb2
  go_wp2_with fail
  refine (Hrem.out w8 A8 c8 R8.out).mono ?_
  rintro e w9 hp
  obtain ⟨A9, c9, rfl, hq, hb2⟩ := hp.yes Hm1.out
  have R9 := Lib.hid hq
  replace hb := hb.trans (hb2.mono hb.size)
  clear hp hq hb2 R8
  go_wp2_with fail
  refine (Hback.out w9 A9 c9 R9.out).mono ?_
  rintro e w10 hp
  obtain ⟨A10, c10, rfl, hq, hb2⟩ := hp.yes Hll.out
  have R10 := Lib.hid hq
  replace R9 := Lib.hid (R9.out.below hb2)
  replace hb := hb.trans (hb2.mono hb.size)
  clear hp hq hb2
  go_wp2_with fail
  refine (Hints.out w10 A10 c10 hb R10.out).mono ?_
  rintro e w11 ⟨rfl, hb2⟩
  replace R9 := Lib.hid (R9.out.below hb2)
  replace hb := hb.trans (hb2.mono hb.size)
  clear hb2 R10
  go_wp2_with fail
  refine (Hown.out _ hb).mono ?_
  rintro e w12 ⟨A12, c12, rfl, ho1, hb2⟩
  have R12 := Lib.hid (Rd.of_own ho1).any
  replace R9 := Lib.hid (R9.out.below hb2)
  replace hb := hb.trans (hb2.mono hb.size)
  clear ho1 hb2
  go_wp2_with fail
  refine (Hnear.out w12 A9 c9 A12 c12 R9.out R12.out).mono ?_
  rintro e w13 ⟨rfl, rfl⟩
  go_wp2_with fail
  refine (Hhas.out w12 A9 c9 R9.out).mono ?_
  rintro e w13 ⟨rfl, rfl⟩
  clear R9 R12
  go_wp2_with fail
  refine (sure_any _).mono ?_
  rintro e w15 ⟨rfl, hb2⟩
  go_wp2_with fail
  go_ret
  exact ⟨rfl, hb.trans (hb2.mono hb.size)⟩
set_option maxHeartbeats 1600000 in
theorem turns_none (A : Option Addr) (n c : Nat) (l : List Int) (z : Int) (w : World) {ok : Nat → Prop} (hr : Rd w ok 1 A n (ii l)) (hn : (n : Int) ≤ 300) (hc : cmay l = true) (ha : (addOf l z).1 ≠ 0) (hm : (remOf l z).1 ≠ 0) :
    Calls Try.prog 9 #[.slice A n c, .int .i64 z] w (YesPost w) := by
  have hnd : decide (300 < (n : Int)) = false := decide_eq_false (by omega)
  have hll := ii_len hr
  have hone := turn_one (z := z) hc
  have hown := fun (W : World) (hb : Below w.heap.size w W) => own_any A n c l W (hr.below hb) (by omega)
  have hchk := fun W A c (h : Rd W T 1 A n (ii l)) => chk_any A n c l W h (by omega)
  rw [hc] at hchk
  have hadd := fun W A c (h : Rd W T 1 A n (ii l)) => add_any A n c l z W h (by omega)
  have hrem := fun W A c (h : Rd W T 1 A n (ii l)) => rem_any A n c l z W h (by omega)
  have hints := fun W B d (hb : Below w.heap.size w W) (h : Rd W T 1 B n (ii l)) => ints_any B n d A n c l l W h (hr.below hb) (by omega)
  simp only [decide_true] at hints
  have Ha := Lib.hid ha
  have Hm := Lib.hid hm
  have Hown := Lib.hid hown
  have Hchk := Lib.hid hchk
  have Hadd := Lib.hid hadd
  have Hrem := Lib.hid hrem
  have Hints := Lib.hid hints
  have Hll := Lib.hid hll
  have Hone := Lib.hid hone
  clear hown hchk hadd hrem hints hll hone hr hc ha hm
  go_enter Try.func9, Try.ntmps9
  go_wp2_with fail
  refine (Hown.out w (Below.refl _ _)).mono ?_
  rintro e w1 ⟨A1, c1, rfl, ho1, hb⟩
  have R1 := Lib.hid (Rd.of_own ho1).any
  clear ho1
  go_wp2_with fail
  refine (Hchk.out w1 A1 c1 R1.out).mono ?_
  rintro e w2 ⟨rfl, rfl⟩
  clear R1
  go_wp2_with fail
  refine (Hown.out _ hb).mono ?_
  rintro e w2 ⟨A2, c2, rfl, ho1, hb2⟩
  have R2 := Lib.hid (Rd.of_own ho1).any
  replace hb := hb.trans (hb2.mono hb.size)
  clear ho1 hb2
  go_wp2_with fail
  refine (Hadd.out w2 A2 c2 R2.out).mono ?_
  rintro e w3 hp
  obtain ⟨A3, c3, rfl, hb2⟩ := hp.no Ha.out
  replace hb := hb.trans (hb2.mono hb.size)
  clear hp hb2 R2
  go_wp2_with fail
  refine (Hown.out _ hb).mono ?_
  rintro e w8 ⟨A8, c8, rfl, ho1, hb2⟩
  have R8 := Lib.hid (Rd.of_own ho1).any
  replace hb := hb.trans (hb2.mono hb.size)
  clear ho1 hb2
  go_wp2_with fail
  refine (Hrem.out w8 A8 c8 R8.out).mono ?_
  rintro e w9 hp
  obtain ⟨A9, c9, rfl, hb2⟩ := hp.no Hm.out
  replace hb := hb.trans (hb2.mono hb.size)
  clear hp hb2 R8
  have h4 : ((n : Int) == 7) = true ∨ (((n : Int) == 7) = false ∧ ((n : Int) == 1) = true) ∨ (((n : Int) == 7) = false ∧ ((n : Int) == 1) = false ∧ z < 1) ∨ (((n : Int) == 7) = false ∧ ((n : Int) == 1) = false ∧ ¬ z < 1 ∧ 64 < z) := by
    simp only [beq_iff_eq, beq_eq_false_iff_ne]
    rcases Hone.out with h | h | h | h | h
    · exact absurd h Ha.out
    · exact absurd h Hm.out
    all_goals
      have := Hll.out
      omega
  rcases h4 with h4 | ⟨h4, h5⟩ | ⟨h4, h5, h6⟩ | ⟨h4, h5, h6, h7⟩
  all_goals
    go_wp2_with fail
    refine (sure_any _).mono ?_
    rintro e w15 ⟨rfl, hb2⟩
    go_wp2_with fail
    go_ret
    exact ⟨rfl, hb.trans (hb2.mono hb.size)⟩
theorem turns_walk (A : Option Addr) (n c : Nat) (l : List Int) (z : Int) (w : World) {ok : Nat → Prop} (hr : Rd w ok 1 A n (ii l)) (hn : (n : Int) ≤ 300) :
    Calls Try.prog 9 #[.slice A n c, .int .i64 z] w (YesPost w) := by
  by_cases hc : cmay l = true
  · by_cases ha : (addOf l z).1 = 0
    · refine turns_add A n c l z w hr hn hc ha fun h => ?_
      exact (addOf_zero ha).2.2.2.2.1 (remOf_zero h).2.2.1
    · by_cases hm : (remOf l z).1 = 0
      · exact turns_rem A n c l z w hr hn hc ha hm
      · exact turns_none A n c l z w hr hn hc ha hm
  · exact turns_bad A n c l z w hr hn (by simpa using hc)
end Go.Proofs.Ytedcjakgdoiomaa
