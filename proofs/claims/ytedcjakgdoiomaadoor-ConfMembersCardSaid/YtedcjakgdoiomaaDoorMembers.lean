/- Walk of tollbarlaw10.ConfMembers. (Printed by mkmem.py.) -/
import Derived.Test.YtedcjakgdoiomaaDoorMem
import Derived.Test.YtedcjakgdoiomaaDoorRefM
import Derived.Test.YtedcjakgdoiomaaDoorChk
import Derived.Test.YtedcjakgdoiomaaDoorInts
import Derived.Test.YtedcjakgdoiomaaDoorSure
import Derived.Test.YtedcjakgdoiomaaDoorNum
import Derived.Deep.RegionHeld3
import Derived.Deep.DrawnRows
namespace Go.Proofs.YtedcjakgdoiomaaDoor
open Go.RowKit
set_option maxRecDepth 100000
set_option linter.unusedVariables false
set_option linter.unusedSimpArgs false
attribute [local go_sem ↓] Go.wp_at_zero Go.wp_at_succ
theorem errC_eq (k : Int) : errC k = errV k := rfl
theorem addOf_len (l : List Int) (z : Int) (h : l.length ≤ 1000) : (addOf l z).2.length ≤ 1000000 := by
  have := ins_length z l
  by_cases h0 : (addOf l z).1 = 0
  · rw [(addOf_zero h0).1]
    show (ins z l).length ≤ _
    omega
  · unfold addOf at h0 ⊢
    split
    · simp
    · split
      · simp
      · split
        · simp
        · simp_all
theorem remOf_len (l : List Int) (z : Int) (h : l.length ≤ 1000) : (remOf l z).2.length ≤ 1000000 := by
  have : (del z l).length ≤ l.length := List.length_filter_le _ _
  by_cases h0 : (remOf l z).1 = 0
  · rw [(remOf_zero h0).1]
    show (del z l).length ≤ _
    omega
  · unfold remOf at h0 ⊢
    repeat' (split <;> simp_all)
theorem below_next {w5 W w6 : World} (h : Below w5.heap.size w5 W) (h2 : Below W.heap.size W w6) : Below w5.heap.size w5 w6 := h.trans (h2.mono h.size)
theorem members_far (A : Option Addr) (n c : Nat) (z : Int) (w : World) (h : 300 < (n : Int)) :
    Calls Tryd.prog 3 #[.slice A n c, .int .i64 z] w (YesPost w) := by
  go_enter Tryd.func3, Tryd.ntmps3
  go_wp2_with fail
  refine (sure_any _).mono ?_
  rintro e w1 ⟨rfl, hb1⟩
  go_wp2_with fail
  go_ret
  exact ⟨rfl, hb1⟩
set_option maxHeartbeats 6400000 in
theorem members_yes (A : Option Addr) (n c : Nat) (l : List Int) (z : Int) (w : World) {ok : Nat → Prop} (hg : ErrT w) (hr : Rd w ok 1 A n (ii l)) (hn : (n : Int) ≤ 300) (hnc : n ≤ c) (hcm : c ≤ maxLen) (hc : cmay l = true) :
    Calls Tryd.prog 3 #[.slice A n c, .int .i64 z] w (YesPost w) := by
  have hnd : decide (300 < (n : Int)) = false := decide_eq_false (by omega)
  have hll := ii_len hr
  have h1l := addOf_len l z (by omega)
  have h2l := remOf_len l z (by omega)
  have hown := own_any A n c l w hr (by omega)
  have hchk := fun W A c (h : Rd W T 1 A n (ii l)) => chk_any A n c l W h (by omega)
  have hmay := fun W (hb : Below w.heap.size w W) => mayR_any A n c l W (hr.below hb) (by omega)
  have hin := fun W (hb : Below w.heap.size w W) => in_any A n c l z W (hr.below hb) (by omega)
  have hhas := fun W A c (h : Rd W T 1 A n (ii l)) => hasM_any A n c l z W h (by omega)
  have hadd := fun W A c (h : Rd W T 1 A n (ii l)) => add_any A n c l z W h (by omega)
  have hrem := fun W A c (h : Rd W T 1 A n (ii l)) => rem_any A n c l z W h (by omega)
  have haddR := fun W (hb : Below w.heap.size w W) => addR_any A n c l z W (hr.below hb) (by omega) hnc hcm
  have hremR := fun W (hb : Below w.heap.size w W) => remR_any A n c l z W (hr.below hb) (by omega)
  rw [hc] at hchk hmay hhas
  simp only [Bool.false_and, Bool.true_and] at hhas
  generalize decide (z ∈ l) = p at hin hhas
  generalize addOf l z = r1 at hadd haddR h1l
  generalize remOf l z = r2 at hrem hremR h2l
  obtain ⟨k1, L1⟩ := r1
  obtain ⟨k2, L2⟩ := r2
  have hi1 := fun W A B c d (h1 : Rd W T 1 A L1.length (ii L1)) (h2 : Rd W T 1 B L1.length (ii L1)) => ints_any A L1.length c B L1.length d L1 L1 W h1 h2 (by have : L1.length ≤ 1000000 := h1l; omega)
  have hi2 := fun W A B c d (h1 : Rd W T 1 A L2.length (ii L2)) (h2 : Rd W T 1 B L2.length (ii L2)) => ints_any A L2.length c B L2.length d L2 L2 W h1 h2 (by have : L2.length ≤ 1000000 := h2l; omega)
  have hi3 := fun W B d (hb : Below w.heap.size w W) (h1 : Rd W T 1 B n (ii l)) => ints_any B n d A n c l l W h1 (hr.below hb) (by omega)
  simp only [decide_true] at hi1 hi2 hi3
  unfold ModPost at hadd hrem
  unfold RefPost at haddR hremR
  simp only [errC_eq] at hadd hrem
  dsimp only at hadd hrem haddR hremR h1l h2l
  generalize L1.length = n1 at hadd haddR h1l hi1
  generalize L2.length = n2 at hrem hremR h2l hi2
  have Hown := Lib.hid hown
  have Hchk := Lib.hid hchk
  have Hmay := Lib.hid hmay
  have Hin := Lib.hid hin
  have Hhas := Lib.hid hhas
  have Hadd := Lib.hid hadd
  have Hrem := Lib.hid hrem
  have HaddR := Lib.hid haddR
  have HremR := Lib.hid hremR
  have Hi1 := Lib.hid hi1
  have Hi2 := Lib.hid hi2
  have Hi3 := Lib.hid hi3
  have Hg := Lib.hid hg
  clear hown hchk hmay hin hhas hadd hrem haddR hremR hi1 hi2 hi3 hg hr hll hc h1l h2l
  go_enter Tryd.func3, Tryd.ntmps3
  go_wp2_with fail
  refine Hown.out.mono ?_
  rintro e w1 ⟨A1, c1, rfl, ho1, hb⟩
  have R1 := Lib.hid (Rd.of_own ho1).any
  clear ho1
  go_wp2_with fail
  refine (Hadd.out w1 A1 c1 R1.out).mono ?_
  rintro e w2 ⟨A2, c2, rfl, ho2, hb2⟩
  have R2 := Lib.hid (Rd.of_own ho2).any
  replace R1 := Lib.hid (R1.out.below hb2)
  replace hb := hb.trans (hb2.mono hb.size)
  clear ho2 hb2
  go_wp2_with fail
  refine (HaddR.out w2 hb).mono ?_
  rintro e w3 ⟨A3, c3, rfl, ho3, hb2⟩
  have R3 := Lib.hid ho3
  replace R1 := Lib.hid (R1.out.below hb2)
  replace R2 := Lib.hid (R2.out.below hb2)
  replace hb := hb.trans (hb2.mono hb.size)
  clear ho3 hb2
  go_wp2_with fail
  refine (Hrem.out w3 A1 c1 R1.out).mono ?_
  rintro e w4 ⟨A4, c4, rfl, ho4, hb2⟩
  have R4 := Lib.hid (Rd.of_own ho4).any
  replace R1 := Lib.hid (R1.out.below hb2)
  replace R2 := Lib.hid (R2.out.below hb2)
  replace R3 := Lib.hid (R3.out.below hb2)
  replace hb := hb.trans (hb2.mono hb.size)
  clear ho4 hb2
  go_wp2_with fail
  refine (HremR.out w4 hb).mono ?_
  rintro e w5 ⟨A5, c5, rfl, ho5, hb2⟩
  have R5 := Lib.hid ho5
  replace R1 := Lib.hid (R1.out.below hb2)
  replace R2 := Lib.hid (R2.out.below hb2)
  replace R3 := Lib.hid (R3.out.below hb2)
  replace R4 := Lib.hid (R4.out.below hb2)
  replace hb := hb.trans (hb2.mono hb.size)
  have Hg5 := Lib.hid (Hg.out.below hb)
  clear ho5 hb2 Hadd HaddR Hrem HremR Hown Hg
  have Hb := Lib.hid hb
  clear hb
  have Hw := Lib.hid (fun W (h : Below w5.heap.size w5 W) => Hb.out.trans (h.mono Hb.out.size))
  go_wp2_with fail
  go_region_held3 (fun W => Below w5.heap.size w5 W) ((first | exact (Below.refl _ _).drew | assumption | exact Below.trans (by assumption) (Below.mono (by assumption) (Below.size (by assumption))))) (first
    | (go_at_call 10; refine (Hchk.out _ A1 c1 (R1.out.below (by assumption))).mono ?_; rintro e w6 ⟨rfl, rfl⟩; simp only [if_true, Bool.false_eq_true, if_false])
    | (go_at_call 11; refine (Hmay.out _ (Hw.out _ (by assumption))).mono ?_; rintro e w6 ⟨rfl, hb6⟩)
    | (go_at_call 13; refine (Hin.out _ (Hw.out _ (by assumption))).mono ?_; rintro e w6 ⟨rfl, rfl⟩)
    | (go_at_call 12; refine (Hhas.out _ A1 c1 (R1.out.below (by assumption))).mono ?_; rintro e w6 ⟨rfl, rfl⟩)
    | (go_at_call 14; first
        | ((with_reducible refine (Hi1.out _ A2 A3 c2 c3 (R2.out.below (by assumption)) (R3.out.below (by assumption))).mono ?_); rintro e w6 ⟨rfl, hb6⟩)
        | ((with_reducible refine (Hi2.out _ A4 A5 c4 c5 (R4.out.below (by assumption)) (R5.out.below (by assumption))).mono ?_); rintro e w6 ⟨rfl, hb6⟩)
        | ((with_reducible refine (Hi3.out _ A1 c1 (Hw.out _ (by assumption)) (R1.out.below (by assumption))).mono ?_); rintro e w6 ⟨rfl, hb6⟩))
    | (go_at_call 15; first
        | ((with_reducible refine (num_any k1 _ (Hg5.out.below (by assumption))).mono ?_); rintro e w6 ⟨rfl, hb6⟩)
        | ((with_reducible refine (num_any k2 _ (Hg5.out.below (by assumption))).mono ?_); rintro e w6 ⟨rfl, hb6⟩))
    | (go_at_call 4; refine (sure_any _).mono ?_; rintro e w6 ⟨rfl, hb6⟩))
  all_goals
    go_wp2_with fail
    go_ret
    exact ⟨rfl, Hw.out _ (by assumption)⟩
set_option maxHeartbeats 6400000 in
theorem members_no (A : Option Addr) (n c : Nat) (l : List Int) (z : Int) (w : World) {ok : Nat → Prop} (hg : ErrT w) (hr : Rd w ok 1 A n (ii l)) (hn : (n : Int) ≤ 300) (hnc : n ≤ c) (hcm : c ≤ maxLen) (hc : cmay l = false) :
    Calls Tryd.prog 3 #[.slice A n c, .int .i64 z] w (YesPost w) := by
  have hnd : decide (300 < (n : Int)) = false := decide_eq_false (by omega)
  have hll := ii_len hr
  have h1l := addOf_len l z (by omega)
  have h2l := remOf_len l z (by omega)
  have hown := own_any A n c l w hr (by omega)
  have hchk := fun W A c (h : Rd W T 1 A n (ii l)) => chk_any A n c l W h (by omega)
  have hmay := fun W (hb : Below w.heap.size w W) => mayR_any A n c l W (hr.below hb) (by omega)
  have hin := fun W (hb : Below w.heap.size w W) => in_any A n c l z W (hr.below hb) (by omega)
  have hhas := fun W A c (h : Rd W T 1 A n (ii l)) => hasM_any A n c l z W h (by omega)
  have hadd := fun W A c (h : Rd W T 1 A n (ii l)) => add_any A n c l z W h (by omega)
  have hrem := fun W A c (h : Rd W T 1 A n (ii l)) => rem_any A n c l z W h (by omega)
  have haddR := fun W (hb : Below w.heap.size w W) => addR_any A n c l z W (hr.below hb) (by omega) hnc hcm
  have hremR := fun W (hb : Below w.heap.size w W) => remR_any A n c l z W (hr.below hb) (by omega)
  rw [hc] at hchk hmay hhas
  simp only [Bool.false_and, Bool.true_and] at hhas
  generalize decide (z ∈ l) = p at hin hhas
  generalize addOf l z = r1 at hadd haddR h1l
  generalize remOf l z = r2 at hrem hremR h2l
  obtain ⟨k1, L1⟩ := r1
  obtain ⟨k2, L2⟩ := r2
  have hi1 := fun W A B c d (h1 : Rd W T 1 A L1.length (ii L1)) (h2 : Rd W T 1 B L1.length (ii L1)) => ints_any A L1.length c B L1.length d L1 L1 W h1 h2 (by have : L1.length ≤ 1000000 := h1l; omega)
  have hi2 := fun W A B c d (h1 : Rd W T 1 A L2.length (ii L2)) (h2 : Rd W T 1 B L2.length (ii L2)) => ints_any A L2.length c B L2.length d L2 L2 W h1 h2 (by have : L2.length ≤ 1000000 := h2l; omega)
  have hi3 := fun W B d (hb : Below w.heap.size w W) (h1 : Rd W T 1 B n (ii l)) => ints_any B n d A n c l l W h1 (hr.below hb) (by omega)
  simp only [decide_true] at hi1 hi2 hi3
  unfold ModPost at hadd hrem
  unfold RefPost at haddR hremR
  simp only [errC_eq] at hadd hrem
  dsimp only at hadd hrem haddR hremR h1l h2l
  generalize L1.length = n1 at hadd haddR h1l hi1
  generalize L2.length = n2 at hrem hremR h2l hi2
  have Hown := Lib.hid hown
  have Hchk := Lib.hid hchk
  have Hmay := Lib.hid hmay
  have Hin := Lib.hid hin
  have Hhas := Lib.hid hhas
  have Hadd := Lib.hid hadd
  have Hrem := Lib.hid hrem
  have HaddR := Lib.hid haddR
  have HremR := Lib.hid hremR
  have Hi1 := Lib.hid hi1
  have Hi2 := Lib.hid hi2
  have Hi3 := Lib.hid hi3
  have Hg := Lib.hid hg
  clear hown hchk hmay hin hhas hadd hrem haddR hremR hi1 hi2 hi3 hg hr hll hc h1l h2l
  go_enter Tryd.func3, Tryd.ntmps3
  go_wp2_with fail
  refine Hown.out.mono ?_
  rintro e w1 ⟨A1, c1, rfl, ho1, hb⟩
  have R1 := Lib.hid (Rd.of_own ho1).any
  clear ho1
  go_wp2_with fail
  refine (Hadd.out w1 A1 c1 R1.out).mono ?_
  rintro e w2 ⟨A2, c2, rfl, ho2, hb2⟩
  have R2 := Lib.hid (Rd.of_own ho2).any
  replace R1 := Lib.hid (R1.out.below hb2)
  replace hb := hb.trans (hb2.mono hb.size)
  clear ho2 hb2
  go_wp2_with fail
  refine (HaddR.out w2 hb).mono ?_
  rintro e w3 ⟨A3, c3, rfl, ho3, hb2⟩
  have R3 := Lib.hid ho3
  replace R1 := Lib.hid (R1.out.below hb2)
  replace R2 := Lib.hid (R2.out.below hb2)
  replace hb := hb.trans (hb2.mono hb.size)
  clear ho3 hb2
  go_wp2_with fail
  refine (Hrem.out w3 A1 c1 R1.out).mono ?_
  rintro e w4 ⟨A4, c4, rfl, ho4, hb2⟩
  have R4 := Lib.hid (Rd.of_own ho4).any
  replace R1 := Lib.hid (R1.out.below hb2)
  replace R2 := Lib.hid (R2.out.below hb2)
  replace R3 := Lib.hid (R3.out.below hb2)
  replace hb := hb.trans (hb2.mono hb.size)
  clear ho4 hb2
  go_wp2_with fail
  refine (HremR.out w4 hb).mono ?_
  rintro e w5 ⟨A5, c5, rfl, ho5, hb2⟩
  have R5 := Lib.hid ho5
  replace R1 := Lib.hid (R1.out.below hb2)
  replace R2 := Lib.hid (R2.out.below hb2)
  replace R3 := Lib.hid (R3.out.below hb2)
  replace R4 := Lib.hid (R4.out.below hb2)
  replace hb := hb.trans (hb2.mono hb.size)
  have Hg5 := Lib.hid (Hg.out.below hb)
  clear ho5 hb2 Hadd HaddR Hrem HremR Hown Hg
  have Hb := Lib.hid hb
  clear hb
  have Hw := Lib.hid (fun W (h : Below w5.heap.size w5 W) => Hb.out.trans (h.mono Hb.out.size))
  go_wp2_with fail
  have hb0 : Below w5.heap.size w5 w5.drew := (Below.refl _ _).drew
  first | (go_region_with (first
    | (go_at_call 10; refine (Hchk.out _ A1 c1 (R1.out.below (by assumption))).mono ?_; rintro e w6 ⟨rfl, rfl⟩; simp only [if_true, Bool.false_eq_true, if_false])
    | (go_at_call 11; refine (Hmay.out _ (Hw.out _ (by assumption))).mono ?_; rintro e w6 ⟨rfl, hb6⟩; have hb7 := below_next (w5 := w5) (by assumption) hb6)
    | (go_at_call 13; refine (Hin.out _ (Hw.out _ (by assumption))).mono ?_; rintro e w6 ⟨rfl, rfl⟩)
    | (go_at_call 12; refine (Hhas.out _ A1 c1 (R1.out.below (by assumption))).mono ?_; rintro e w6 ⟨rfl, rfl⟩)
    | (go_at_call 14; first
        | ((with_reducible refine (Hi1.out _ A2 A3 c2 c3 (R2.out.below (by assumption)) (R3.out.below (by assumption))).mono ?_); rintro e w6 ⟨rfl, hb6⟩; have hb7 := below_next (w5 := w5) (by assumption) hb6)
        | ((with_reducible refine (Hi2.out _ A4 A5 c4 c5 (R4.out.below (by assumption)) (R5.out.below (by assumption))).mono ?_); rintro e w6 ⟨rfl, hb6⟩; have hb7 := below_next (w5 := w5) (by assumption) hb6)
        | ((with_reducible refine (Hi3.out _ A1 c1 (Hw.out _ (by assumption)) (R1.out.below (by assumption))).mono ?_); rintro e w6 ⟨rfl, hb6⟩; have hb7 := below_next (w5 := w5) (by assumption) hb6))
    | (go_at_call 15; first
        | ((with_reducible refine (num_any k1 _ (Hg5.out.below (by assumption))).mono ?_); rintro e w6 ⟨rfl, hb6⟩; have hb7 := below_next (w5 := w5) (by assumption) hb6)
        | ((with_reducible refine (num_any k2 _ (Hg5.out.below (by assumption))).mono ?_); rintro e w6 ⟨rfl, hb6⟩; have hb7 := below_next (w5 := w5) (by assumption) hb6))
    | (go_at_call 4; refine (sure_any _).mono ?_; rintro e w6 ⟨rfl, hb6⟩; have hb7 := below_next (w5 := w5) (by assumption) hb6))) | fail
  all_goals
    go_wp2_with fail
    go_ret
    exact ⟨rfl, Hw.out _ (by assumption)⟩
theorem members_walk (A : Option Addr) (n c : Nat) (l : List Int) (z : Int) (w : World) {ok : Nat → Prop} (hg : ErrT w) (hr : Rd w ok 1 A n (ii l)) (hn : (n : Int) ≤ 300) (hnc : n ≤ c) (hcm : c ≤ maxLen) :
    Calls Tryd.prog 3 #[.slice A n c, .int .i64 z] w (YesPost w) := by
  by_cases hc : cmay l = true
  · exact members_yes A n c l z w hg hr hn hnc hcm hc
  · exact members_no A n c l z w hg hr hn hnc hcm (by simpa using hc)
end Go.Proofs.YtedcjakgdoiomaaDoor
