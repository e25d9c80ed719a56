/- Walks of entry.Term, entry.Compact.
   Walks: entry.Last, Term, Compact of any log; the document's Term, Compact.
   Walk of the law's longEntries.
   Walks: the law's entries, sameLog. (Printed by mkents.py.)
   Walks: the law's sameLog; entry.Check. -/
import Derived.Test.YtmhaahcbmdhinaaGreatDoorK10
import Derived.Test.YtmhaahcbmdhinaaGreatDoorK14
import Derived.Test.YtmhaahcbmdhinaaGreatDoorK7
import Derived.Test.YtmhaahcbmdhinaaGreatDoorK8
import Derived.Test.YtmhaahcbmdhinaaGreatDoorK9
import Derived.Deep.LoopGhost
namespace Go.Proofs.YtmhaahcbmdhinaaGreatDoor
open Go.RowKit
set_option maxRecDepth 100000
set_option linter.unusedVariables false
set_option linter.unusedSimpArgs false
set_option maxHeartbeats 1600000 in
theorem Term_any (b t ix : Int) (A : Option Addr) (n c : Nat) (L : List Er) (w : World) {ok : Nat → Prop} (hr : Rd w ok 4 A n (flat ecell L)) (hw : Wel L) (hm : lmay b t (L.map en) = true) (hn : n ≤ 1000000) :
    Calls Tryz.prog 119 #[.agg #[.int .i64 b, .int .i64 t, .slice A n c], .int .i64 ix] w (TermPost w (termL b t (L.map en) ix)) := by
  have hmm := fun ob => may_any b t A n c L (w.alloc ob) (hr.alloc ob) hw hn
  have hl := fun W (hb : Below w.heap.size w W) => term_any b t ix A n c L W (hr.below hb) hm hn
  rw [hm] at hmm
  generalize termL b t (L.map en) ix = x at hl
  have Bb := Lib.hid (Bx.new w #[.int .i64 b, .int .i64 t, .slice A n c] 38 rfl)
  have Hmm := Lib.hid hmm
  have Hl := Lib.hid hl
  clear hmm hl hr hw hm
  go_enter Tryz.func119, Tryz.ntmps119
  go_wp2_with fail
  refine (Hmm.out _).mono ?_
  rintro e w2 ⟨rfl, hb2⟩
  obtain ⟨k0, k1, k2, -⟩ := (Bb.out.below hb2).c3
  have hb3 := ((Below.refl w.heap.size w).alloc (Nat.le_refl _) (.cells #[.int .i64 b, .int .i64 t, .slice A n c] 38)).trans (hb2.mono (by simp))
  clear hb2
  go_wp2_with fail
  refine (Hl.out _ hb3).mono ?_
  rintro e w3 ⟨rfl, hb4⟩
  go_wp2_with fail
  go_ret2
  exact ⟨rfl, hb3.trans (hb4.mono hb3.size)⟩
end Go.Proofs.YtmhaahcbmdhinaaGreatDoor
namespace Go.Proofs.YtmhaahcbmdhinaaGreatDoor
open Go.RowKit
set_option maxRecDepth 100000
set_option linter.unusedVariables false
set_option linter.unusedSimpArgs false
theorem LastA_any (b t : Int) (A : Option Addr) (n c : Nat) (L : List Er) (w : World) {ok : Nat → Prop} (hr : Rd w ok 4 A n (flat ecell L)) (hw : Wel L) (hn : n ≤ 1000000) :
    Calls Tryz.prog 26 #[.agg #[.int .i64 b, .int .i64 t, .slice A n c]] w (TwoInt w (if lmay b t (L.map en) then lstA b (L.map en) else 0) (if lmay b t (L.map en) then lstB t (L.map en) else 0)) := by
  by_cases hm : lmay b t (L.map en) = true
  · rw [if_pos hm, if_pos hm]
    exact Last_any b t A n c L w hr hw hm hn
  · rw [Bool.not_eq_true] at hm
    rw [hm]
    have hmm := fun ob => may_any b t A n c L (w.alloc ob) (hr.alloc ob) hw hn
    rw [hm] at hmm
    have Hmm := Lib.hid hmm
    clear hmm hr hw hm
    go_enter Tryz.func26, Tryz.ntmps26
    go_wp2_with fail
    refine (Hmm.out _).mono ?_
    rintro e w2 ⟨rfl, hb2⟩
    have hb3 := ((Below.refl w.heap.size w).alloc (Nat.le_refl _) (.cells #[.int .i64 b, .int .i64 t, .slice A n c] 38)).trans (hb2.mono (by simp))
    clear hb2
    go_wp2_with fail
    go_ret2
    exact ⟨rfl, hb3⟩
theorem TermA_any (b t ix : Int) (A : Option Addr) (n c : Nat) (L : List Er) (w : World) {ok : Nat → Prop} (hr : Rd w ok 4 A n (flat ecell L)) (hw : Wel L) (hn : n ≤ 1000000) :
    Calls Tryz.prog 119 #[.agg #[.int .i64 b, .int .i64 t, .slice A n c], .int .i64 ix] w (TermPost w (compL b t (L.map en) ix)) := by
  by_cases hm : lmay b t (L.map en) = true
  · rw [compL_yes hm]
    exact Term_any b t ix A n c L w hr hw hm hn
  · rw [Bool.not_eq_true] at hm
    rw [compL_no hm]
    have hmm := fun ob => may_any b t A n c L (w.alloc ob) (hr.alloc ob) hw hn
    rw [hm] at hmm
    have Hmm := Lib.hid hmm
    clear hmm hr hw hm
    go_enter Tryz.func119, Tryz.ntmps119
    go_wp2_with fail
    refine (Hmm.out _).mono ?_
    rintro e w2 ⟨rfl, hb2⟩
    have hb3 := ((Below.refl w.heap.size w).alloc (Nat.le_refl _) (.cells #[.int .i64 b, .int .i64 t, .slice A n c] 38)).trans (hb2.mono (by simp))
    clear hb2
    go_wp2_with fail
    go_ret2
    exact ⟨rfl, hb3⟩
set_option maxHeartbeats 1600000 in
theorem termR_any (b t ix : Int) (A : Option Addr) (n c : Nat) (L : List Er) (w : World) {ok : Nat → Prop} (hr : Rd w ok 4 A n (flat ecell L)) (hw : Wel L) (hn : n ≤ 1000000) :
    Calls Tryz.prog 192 #[.agg #[.int .i64 b, .int .i64 t, .slice A n c], .int .i64 ix] w (TwoInt w (compL b t (L.map en) ix).2 (compL b t (L.map en) ix).1) := by
  have hmm := fun ob => mayR_any b t A n c L (w.alloc ob) (hr.alloc ob) hw hn
  have hl := fun W (hb : Below w.heap.size w W) => lastR_any b t A n c L W (hr.below hb) hw hn
  have Bb := Lib.hid (Bx.new w #[.int .i64 b, .int .i64 t, .slice A n c] 24 rfl)
  have Hb0 := Lib.hid ((Below.refl w.heap.size w).alloc (Nat.le_refl _) (.cells #[.int .i64 b, .int .i64 t, .slice A n c] 24))
  by_cases hm : lmay b t (L.map en) = true
  · rw [compL_yes hm]
    rw [hm] at hmm
    simp only [hm, if_true] at hl
    have hlast := lmay_last hm
    have hll := hr.flen ecell_len (by omega)
    rw [List.length_map, hll] at hlast
    have hbb := (lmay_iff.1 hm).1
    obtain ⟨R, hR⟩ : ∃ R, termL b t (L.map en) ix = R := ⟨_, rfl⟩
    rw [hR]
    unfold termL at hR
    generalize lstB t (L.map en) = y at hl
    rw [hlast] at hl hR
    have Hmm := Lib.hid hmm
    have Hl := Lib.hid hl
    have Hr := Lib.hid hr
    have HR := Lib.hid hR
    have Hbb := Lib.hid hbb
    have Hll := Lib.hid hll
    clear hmm hl hr hw hm hlast hR hbb hll
    go_enter Tryz.func192, Tryz.ntmps192
    go_wp2_with fail
    refine (Hmm.out _).mono ?_
    rintro e w2 ⟨rfl, hb2⟩
    have hb3 := Hb0.out.trans (hb2.mono (by simp))
    have Bb2 := Lib.hid (Bb.out.below hb2)
    obtain ⟨k0, k1, k2, -⟩ := Bb2.out.c3
    clear hb2
    go_wp2_with fail
    refine (Hl.out _ hb3).mono ?_
    rintro e w3 ⟨rfl, hb4⟩
    have hb5 := hb3.trans (hb4.mono hb3.size)
    obtain ⟨j0, j1, j2, -⟩ := (Bb2.out.below hb4).c3
    have Hb5 := Lib.hid hb5
    clear hb4 hb3 k0 k1 k2 hb5
    by_cases h2 : ix < 0
    · go_wp2_with fail
      go_ret2
      have := HR.out
      rw [if_pos (.inr h2)] at this
      subst this
      exact ⟨rfl, Hb5.out⟩
    have h2d : decide (ix < 0) = false := decide_eq_false h2
    by_cases h1 : b + (n : Int) < ix
    · go_wp2_with fail
      go_ret2
      have := HR.out
      rw [if_pos (.inl h1)] at this
      subst this
      exact ⟨rfl, Hb5.out⟩
    have h1d : decide (b + (n : Int) < ix) = false := decide_eq_false h1
    replace HR := Lib.hid (show _ from (if_neg (by omega : ¬ (b + (n : Int) < ix ∨ ix < 0))).symm.trans HR.out)
    by_cases h3 : ix < b
    · go_wp2_with fail
      go_ret2
      have := HR.out
      rw [if_pos h3] at this
      subst this
      exact ⟨rfl, Hb5.out⟩
    have h3d : decide (ix < b) = false := decide_eq_false h3
    replace HR := Lib.hid (show _ from (if_neg h3).symm.trans HR.out)
    by_cases h4 : ix = b
    · subst h4
      go_wp2_with fail
      go_ret2
      have := HR.out
      rw [if_pos (by trivial)] at this
      subst this
      exact ⟨rfl, Hb5.out⟩
    have h4d : (ix == b) = false := by simpa using h4
    obtain ⟨m, hm1⟩ : ∃ m : Nat, ix - b - 1 = (m : Int) := ⟨(ix - b - 1).toNat, by omega⟩
    have hmn : m < n := by omega
    have w1 : IntKind.i64.wrap (ix - b) = ix - b := by rw [IntKind.wrap_i64]; have := Hbb.out; omega
    have w2' : IntKind.i64.wrap (ix - b - 1) = (m : Int) := by rw [IntKind.wrap_i64]; have := Hbb.out; omega
    obtain ⟨bk, o, x, rfl, _, hbl, hx, c0, c1, c2, c3⟩ := er_cells Hr.out hmn
    have hRR : R = (0, x.b) := by
      have := HR.out
      rw [if_neg h4, show (ix - b - 1).toNat = m by omega, List.getElem?_map, hx] at this
      exact this.symm
    have hmI : (m : Int) < n := by omega
    have hm0 : (0 : Int) ≤ m := by omega
    have k3 : w3.cell? ⟨bk, o + m * 4 + 1, none⟩ = some (.int .i64 x.b) := (Hb5.out.cell (p := ⟨bk, o + m * 4 + 1, none⟩) hbl).trans c1
    have HRR := Lib.hid hRR
    clear c0 c1 c2 c3 hx hm1 hRR
    go_wp2_with fail
    go_ret2
    rw [HRR.out]
    exact ⟨rfl, Hb5.out⟩
  · rw [Bool.not_eq_true] at hm
    rw [compL_no hm]
    rw [hm] at hmm
    have Hmm := Lib.hid hmm
    clear hmm hl hr hw hm
    go_enter Tryz.func192, Tryz.ntmps192
    go_wp2_with fail
    refine (Hmm.out _).mono ?_
    rintro e w2 ⟨rfl, hb2⟩
    have hb3 := Hb0.out.trans (hb2.mono (by simp))
    clear hb2
    go_wp2_with fail
    go_ret2
    exact ⟨rfl, hb3⟩
end Go.Proofs.YtmhaahcbmdhinaaGreatDoor
namespace Go.Proofs.YtmhaahcbmdhinaaGreatDoor
open Go.RowKit
set_option maxRecDepth 100000
set_option linter.unusedVariables false
set_option linter.unusedSimpArgs false
def sumD (L : List Er) : Nat := (L.map fun x => x.n / 64).sum
def longB (L : List Er) : Bool := decide (200 < L.length) || decide (400 < sumD (L.take 300))
theorem sumD_step {L : List Er} {j : Nat} {x : Er} (h : L[j]? = some x) : sumD (L.take (j + 1)) = sumD (L.take j) + x.n / 64 := by
  unfold sumD
  rw [List.take_add_one, h, List.map_append, List.sum_append]
  simp
theorem sumD_le {L : List Er} {K : Nat} (h : ∀ x ∈ L, x.n ≤ K) : sumD L ≤ L.length * K := by
  unfold sumD
  induction L with
  | nil => simp
  | cons x L ih =>
    have h1 := ih fun y hy => h y (by simp [hy])
    have h2 := h x (by simp)
    simp only [List.map_cons, List.sum_cons, List.length_cons, Nat.succ_mul]
    have : x.n / 64 ≤ x.n := Nat.div_le_self _ _
    omega
theorem sumD_mem {L : List Er} {x : Er} (h : x ∈ L) : x.n / 64 ≤ sumD L := by
  unfold sumD
  induction L with
  | nil => cases h
  | cons y L ih =>
    simp only [List.map_cons, List.sum_cons]
    rcases List.mem_cons.1 h with rfl | h
    · omega
    · have := ih h
      omega
theorem longB_no {L : List Er} (h : longB L = false) : L.length ≤ 200 ∧ ∀ x ∈ L, x.n ≤ 25663 := by
  unfold longB at h
  simp only [Bool.or_eq_false_iff, decide_eq_false_iff_not] at h
  refine ⟨by omega, fun x hx => ?_⟩
  rw [List.take_of_length_le (by omega)] at h
  have := sumD_mem hx
  omega
set_option maxHeartbeats 1600000 in
theorem longs_any (A : Option Addr) (n c : Nat) (L : List Er) (w : World) {ok : Nat → Prop} (hr : Rd w ok 4 A n (flat ecell L)) (hs : ∀ x ∈ L, x.n ≤ 140737488351232) (hn : n ≤ 9223372036854775807) :
    Calls Tryz.prog 10 #[.slice A n c] w (BoolPost w (longB L)) := by
  have Hll := Lib.hid (hr.flen ecell_len (by omega))
  have Hs := Lib.hid hs
  have Hr := Lib.hid hr
  clear hr hs
  go_enter Tryz.func10, Tryz.ntmps10
  go_wp2_with fail
  go_loopg [3, 4] 300 (fun m s3 s4 wr => ∃ (j s : Nat), m = 300 - j ∧ j ≤ 300 ∧ j ≤ n ∧ s4 = .int .i64 j ∧ s3 = .int .i64 s ∧ s = sumD (L.take j) ∧ Below w.heap.size w wr)
  case atStart => exact ⟨0, 0, by omega, by omega, by omega, rfl, rfl, rfl, Below.refl _ _⟩
  case round =>
    obtain ⟨j, s, hm, hj3, hj, rfl, rfl, hsj, hb⟩ := hrel
    have Hm := Lib.hid hm
    have Hsj := Lib.hid hsj
    have Hb := Lib.hid hb
    clear hm hsj hb
    by_cases hlt : j < n ∧ j < 300
    · obtain ⟨hlt, h3⟩ := hlt
      obtain ⟨b, o, x, rfl, _, hbl, hx, c0, c1, c2, c3⟩ := er_cells (Hr.out.below Hb.out) hlt
      have hjI : (j : Int) < n := by omega
      have h3I : (j : Int) < 300 := by omega
      have hst := sumD_step hx
      have hsl : s ≤ 300 * 140737488351232 := by
        have h1 := sumD_le (L := L.take j) (K := 140737488351232) fun y hy => Hs.out y (List.mem_of_mem_take hy)
        have h2 : (L.take j).length ≤ 300 := by rw [List.length_take]; omega
        have h4 := Nat.mul_le_mul_right 140737488351232 h2
        have := Hsj.out
        omega
      have hxn := Hs.out x (List.mem_of_getElem? hx)
      obtain ⟨q, hq⟩ : ∃ q, q = x.n / 64 := ⟨_, rfl⟩
      have hq1 : ((x.n : Nat) : Int) / 64 = (q : Int) := by omega
      have hq2 : ((x.n : Nat) : Int).tdiv 64 = (q : Int) := by rw [Int.tdiv_eq_ediv_of_nonneg (by omega)]; exact hq1
      have hw1 : IntKind.i64.wrap ((s : Int) + (q : Int)) = (s : Int) + q := by rw [IntKind.wrap_i64]; omega
      have hw2 : IntKind.i64.wrap ((q : Nat) : Int) = (q : Int) := by rw [IntKind.wrap_i64]; omega
      rw [← hq, ← Hsj.out] at hst
      have Hst := Lib.hid hst
      clear hx hst hq hxn hsl
      go_wp2_with fail
      go_roundg (300 - (j + 1))
      case measure => have := Hm.out; omega
      case rel => exact ⟨j + 1, s + q, rfl, by omega, by omega, by go_num, by push_cast; rfl, Hst.out.symm, Hb.out⟩
    · have hfin : sumD (L.take 300) = s := by
        rw [Hsj.out]
        by_cases h3 : j = 300
        · rw [h3]
        · have hl := Hll.out
          rw [List.take_of_length_le (by omega), List.take_of_length_le (by omega)]
      have hV : longB L = (decide (200 < (n : Int)) || decide (400 < (s : Int))) := by
        unfold longB
        rw [hfin, Hll.out]
        congr 1
        · simp only [decide_eq_decide]; omega
        · simp only [decide_eq_decide]; omega
      have HV := Lib.hid hV
      clear hfin hV
      have hcase : ¬ ((j : Int) < n) ∨ ((j : Int) < n ∧ ¬ ((j : Int) < 300)) := by omega
      by_cases h2 : 200 < (n : Int)
      · rcases hcase with h | ⟨h, h'⟩
        all_goals
          go_wp2_with fail
          go_ret
          exact ⟨ret_bool (by rw [HV.out, decide_eq_true h2]; rfl), Hb.out⟩
      · have h2d : decide (200 < (n : Int)) = false := decide_eq_false h2
        rcases hcase with h | ⟨h, h'⟩
        all_goals
          go_wp2_with fail
          go_ret
          exact ⟨ret_bool (by rw [HV.out, h2d]; rfl), Hb.out⟩
end Go.Proofs.YtmhaahcbmdhinaaGreatDoor
namespace Go.Proofs.YtmhaahcbmdhinaaGreatDoor
open Go.RowKit
set_option maxRecDepth 100000
set_option linter.unusedVariables false
set_option linter.unusedSimpArgs false
/-- An entry that can be written as bytes. -/
def Wt (x : Er) : Prop := 0 ≤ x.a ∧ x.a ≤ 9223372036854775807 ∧ 0 ≤ x.b ∧ x.b ≤ 9223372036854775807 ∧ 0 ≤ x.c ∧ x.c ≤ 9223372036854775807 ∧ x.n ≤ 1000000
def ecA (x : Er) : Value := .agg #[.int .i64 x.a, .int .i64 x.b, .int .i64 x.c, .slice x.A x.n x.m]
theorem enc_er (x : Er) (w : World) (h : Wt x) (hr : Rd w T 1 x.A x.n (bs x.d)) (htab : TabW w) : Calls Tryz.prog 196 #[ecA x] w (BytesPost w (encE (en x))) := by
  obtain ⟨a, b, c, A, n, m, d⟩ := x
  obtain ⟨h1, h2, h3, h4, h5, h6, h7⟩ := h
  dsimp only at h1 h2 h3 h4 h5 h6 h7 hr
  obtain ⟨a', rfl⟩ : ∃ q : Nat, a = q := ⟨a.toNat, by omega⟩
  obtain ⟨b', rfl⟩ : ∃ q : Nat, b = q := ⟨b.toNat, by omega⟩
  obtain ⟨c', rfl⟩ : ∃ q : Nat, c = q := ⟨c.toNat, by omega⟩
  exact encode_nat a' b' c' A n m d w (by omega) (by omega) (by omega) hr h7 htab
theorem encR_er (x : Er) (w : World) (h : Wt x) (hr : Rd w T 1 x.A x.n (bs x.d)) : Calls Tryz.prog 200 #[ecA x] w (BytesPost w (encE (en x))) := by
  obtain ⟨a, b, c, A, n, m, d⟩ := x
  obtain ⟨h1, h2, h3, h4, h5, h6, h7⟩ := h
  dsimp only at h1 h2 h3 h4 h5 h6 h7 hr
  obtain ⟨a', rfl⟩ : ∃ q : Nat, a = q := ⟨a.toNat, by omega⟩
  obtain ⟨b', rfl⟩ : ∃ q : Nat, b = q := ⟨b.toNat, by omega⟩
  obtain ⟨c', rfl⟩ : ∃ q : Nat, c = q := ⟨c.toNat, by omega⟩
  exact encodeR_nat a' b' c' A n m d w (by omega) (by omega) (by omega) hr h7
theorem entries_no (A : Option Addr) (n c : Nat) (B : Option Addr) (m d : Nat) (w : World) (h : n ≠ m) : Calls Tryz.prog 165 #[.slice A n c, .slice B m d] w (BoolPost w false) := by
  have hd : ((n : Int) != (m : Int)) = true := by simp; omega
  clear h
  go_enter Tryz.func165, Tryz.ntmps165
  go_wp2_with fail
  go_ret
  exact ⟨rfl, Below.refl _ _⟩
set_option maxHeartbeats 6400000 in
theorem entries_yes (A : Option Addr) (n c : Nat) (L : List Er) (B : Option Addr) (d : Nat) (L' : List Er) (w : World) {ok ok' : Nat → Prop} (hr : Rd w ok 4 A n (flat ecell L)) (hr' : Rd w ok' 4 B n (flat ecell L')) (hd : ∀ x ∈ L, Rd w T 1 x.A x.n (bs x.d)) (hd' : ∀ x ∈ L', Rd w T 1 x.A x.n (bs x.d)) (hs : L'.map en = L.map en) (hw : ∀ x ∈ L, Wt x) (hw' : ∀ x ∈ L', Wt x) (hn : n ≤ 1000000) (htab : TabW w) :
    Calls Tryz.prog 165 #[.slice A n c, .slice B n d] w (BoolPost w true) := by
  have hnn : ((n : Int) != (n : Int)) = false := by simp
  have henc := fun x (hx : x ∈ L) W (hb : Below w.heap.size w W) => enc_er x W (hw x hx) ((hd x hx).below hb) (htab.below hb (Nat.le_refl _))
  have hencR := fun x (hx : x ∈ L') W (hb : Below w.heap.size w W) => encR_er x W (hw' x hx) ((hd' x hx).below hb)
  unfold ecA at henc hencR
  have Henc := Lib.hid henc
  have HencR := Lib.hid hencR
  have Hr := Lib.hid hr
  have Hr' := Lib.hid hr'
  have Hs := Lib.hid hs
  clear henc hencR hr hr' hd hd' hs hw hw' htab
  go_enter Tryz.func165, Tryz.ntmps165
  go_wp2_with fail
  go_loopg [5] n (fun mu s5 wr => ∃ k, mu = n - k ∧ k ≤ n ∧ s5 = .int .i64 (k : Nat) ∧ Below w.heap.size w wr)
  case atStart => exact ⟨0, by omega, by omega, rfl, Below.refl _ _⟩
  case round =>
    obtain ⟨k, hmu, hk, rfl, hbe⟩ := hrel
    have Hmu := Lib.hid hmu
    have Hbe := Lib.hid hbe
    clear hmu
    obtain ⟨wq, rfl⟩ : ∃ wq, wq = wr := ⟨_, rfl⟩
    by_cases hlt : k < n
    · obtain ⟨xb, xo, x, hxA, -, -, hx, x0, x1, x2, x3⟩ := er_cells (Hr.out.below hbe) hlt
      obtain ⟨yb, yo, y, hyA, -, -, hy, y0, y1, y2, y3⟩ := er_cells (Hr'.out.below hbe) hlt
      subst hxA hyA
      have hpe : en y = en x := by
        have h1 := congrArg (fun M => M[k]?) Hs.out
        simp only [List.getElem?_map, hx, hy, Option.map_some, Option.some.injEq] at h1
        exact h1
      have hkI : (k : Int) < n := by omega
      have hk0 : (0 : Int) ≤ k := by omega
      have sof : ∀ W, Below wq.heap.size wq W → (Below wq.heap.size wq W ∧ W.cell? ⟨xb, xo + k * 4, none⟩ = some (.int .i64 x.a) ∧ W.cell? ⟨xb, xo + k * 4 + 1, none⟩ = some (.int .i64 x.b) ∧ W.cell? ⟨xb, xo + k * 4 + 2, none⟩ = some (.int .i64 x.c) ∧ W.cell? ⟨xb, xo + k * 4 + 3, none⟩ = some (.slice x.A x.n x.m) ∧ W.cell? ⟨yb, yo + k * 4, none⟩ = some (.int .i64 y.a) ∧ W.cell? ⟨yb, yo + k * 4 + 1, none⟩ = some (.int .i64 y.b) ∧ W.cell? ⟨yb, yo + k * 4 + 2, none⟩ = some (.int .i64 y.c) ∧ W.cell? ⟨yb, yo + k * 4 + 3, none⟩ = some (.slice y.A y.n y.m)) :=
        fun W h => ⟨h, (h.cell (p := ⟨xb, _, none⟩) (World.block_lt_of_cell? wq _ x0)).trans x0, (h.cell (p := ⟨xb, _, none⟩) (World.block_lt_of_cell? wq _ x1)).trans x1, (h.cell (p := ⟨xb, _, none⟩) (World.block_lt_of_cell? wq _ x2)).trans x2, (h.cell (p := ⟨xb, _, none⟩) (World.block_lt_of_cell? wq _ x3)).trans x3, (h.cell (p := ⟨yb, _, none⟩) (World.block_lt_of_cell? wq _ y0)).trans y0, (h.cell (p := ⟨yb, _, none⟩) (World.block_lt_of_cell? wq _ y1)).trans y1, (h.cell (p := ⟨yb, _, none⟩) (World.block_lt_of_cell? wq _ y2)).trans y2, (h.cell (p := ⟨yb, _, none⟩) (World.block_lt_of_cell? wq _ y3)).trans y3⟩
      have he := fun W (hb : Below wq.heap.size wq W) => Henc.out x (List.mem_of_getElem? hx) W (hbe.trans (hb.mono hbe.size))
      have heR := fun W (hb : Below wq.heap.size wq W) => HencR.out y (List.mem_of_getElem? hy) W (hbe.trans (hb.mono hbe.size))
      rw [hpe] at heR
      have s0 := sof _ (Below.refl _ _).drew
      have Sof := Lib.hid sof
      have He := Lib.hid he
      have HeR := Lib.hid heR
      clear hpe hx hy sof he heR hbe x0 x1 x2 x3 y0 y1 y2 y3
      generalize encE (en x) = E at He HeR
      go_upto_region 6 with (fail)
      go_cut [29] (fun s29 W => s29 = .bool false ∧ Below wq.heap.size wq W)
      case first =>
        refine wp_region_M 12 (fun W => Below wq.heap.size wq W ∧ W.cell? ⟨xb, xo + k * 4, none⟩ = some (.int .i64 x.a) ∧ W.cell? ⟨xb, xo + k * 4 + 1, none⟩ = some (.int .i64 x.b) ∧ W.cell? ⟨xb, xo + k * 4 + 2, none⟩ = some (.int .i64 x.c) ∧ W.cell? ⟨xb, xo + k * 4 + 3, none⟩ = some (.slice x.A x.n x.m) ∧ W.cell? ⟨yb, yo + k * 4, none⟩ = some (.int .i64 y.a) ∧ W.cell? ⟨yb, yo + k * 4 + 1, none⟩ = some (.int .i64 y.b) ∧ W.cell? ⟨yb, yo + k * 4 + 2, none⟩ = some (.int .i64 y.c) ∧ W.cell? ⟨yb, yo + k * 4 + 3, none⟩ = some (.slice y.A y.n y.m)) (by kernel_rfl) s0 (fun hS => ?_)
        refine wpAnyM_take (i := 0) (v := ?_) rfl (by kernel_rfl) (by kernel_rfl) (by kernel_rfl) (by kernel_rfl) (fun _ _ _ h => h) hS (by rfl) ?_ ?_
        rotate_left
        · rintro W ⟨-, z1, z2, z3, z4, z5, z6, z7, z8⟩
          go_simp
          try with_reducible rfl
        try simp only [Act.put, List.setIfInBounds_toArray, List.set_cons_zero, List.set_cons_succ]
        refine wpAnyM_take (i := 1) (v := ?_) rfl (by kernel_rfl) (by kernel_rfl) (by kernel_rfl) (by kernel_rfl) (fun _ _ _ h => h) hS (by rfl) ?_ ?_
        rotate_left
        · rintro W ⟨-, z1, z2, z3, z4, z5, z6, z7, z8⟩
          go_simp
          try with_reducible rfl
        try simp only [Act.put, List.setIfInBounds_toArray, List.set_cons_zero, List.set_cons_succ]
        refine wpAnyM_take (i := 2) (v := ?_) rfl (by kernel_rfl) (by kernel_rfl) (by kernel_rfl) (by kernel_rfl) (fun _ _ _ h => h) hS (by rfl) ?_ ?_
        rotate_left
        · rintro W ⟨-, z1, z2, z3, z4, z5, z6, z7, z8⟩
          go_simp
          try with_reducible rfl
        try simp only [Act.put, List.setIfInBounds_toArray, List.set_cons_zero, List.set_cons_succ]
        refine wpAnyM_take (i := 3) (v := ?_) rfl (by kernel_rfl) (by kernel_rfl) (by kernel_rfl) (by kernel_rfl) (fun _ _ _ h => h) hS (by rfl) ?_ ?_
        rotate_left
        · rintro W ⟨-, z1, z2, z3, z4, z5, z6, z7, z8⟩
          go_simp
          try with_reducible rfl
        try simp only [Act.put, List.setIfInBounds_toArray, List.set_cons_zero, List.set_cons_succ]
        refine wpAnyM_take (i := 6) (v := ?_) rfl (by kernel_rfl) (by kernel_rfl) (by kernel_rfl) (by kernel_rfl) (fun _ _ _ h => h) hS (by rfl) ?_ ?_
        rotate_left
        · rintro W ⟨-, z1, z2, z3, z4, z5, z6, z7, z8⟩
          go_simp
          try with_reducible rfl
        try simp only [Act.put, List.setIfInBounds_toArray, List.set_cons_zero, List.set_cons_succ]
        refine wpAnyM_take (i := 7) (v := ?_) rfl (by kernel_rfl) (by kernel_rfl) (by kernel_rfl) (by kernel_rfl) (fun _ _ _ h => h) hS (by rfl) ?_ ?_
        rotate_left
        · rintro W ⟨-, z1, z2, z3, z4, z5, z6, z7, z8⟩
          go_simp
          try with_reducible rfl
        try simp only [Act.put, List.setIfInBounds_toArray, List.set_cons_zero, List.set_cons_succ]
        refine wpAnyM_take (i := 8) (v := ?_) rfl (by kernel_rfl) (by kernel_rfl) (by kernel_rfl) (by kernel_rfl) (fun _ _ _ h => h) hS (by rfl) ?_ ?_
        rotate_left
        · rintro W ⟨-, z1, z2, z3, z4, z5, z6, z7, z8⟩
          go_simp
          try with_reducible rfl
        try simp only [Act.put, List.setIfInBounds_toArray, List.set_cons_zero, List.set_cons_succ]
        refine wpAnyM_take (i := 9) (v := ?_) rfl (by kernel_rfl) (by kernel_rfl) (by kernel_rfl) (by kernel_rfl) (fun _ _ _ h => h) hS (by rfl) ?_ ?_
        rotate_left
        · rintro W ⟨-, z1, z2, z3, z4, z5, z6, z7, z8⟩
          go_simp
          try with_reducible rfl
        try simp only [Act.put, List.setIfInBounds_toArray, List.set_cons_zero, List.set_cons_succ]
        refine wpAnyM_one (i := 4) (by kernel_rfl) rfl (fun K hK => ?_)
        go_simp
        go_at_call 196
        refine (He.out _ hS.1).mono ?_
        rintro e w1 ⟨A1, n1, c1, rfl, h1, hb1⟩
        have hS1 := Sof.out w1 (hS.1.trans (hb1.mono hS.1.size))
        have r1 := Rd.of_own h1
        have cv1 := fun W (hb : Below w1.heap.size w1 W) => conv_bytes (P := Tryz.prog) (c := c1) 26 9 5 Tryz.underlying26 Tryz.underlying5 Tryz.underlying9 (r1.below hb)
        have CV1 := Lib.hid cv1
        have B1 := Lib.hid hb1
        clear hS h1 r1 cv1 hb1
        have hS := hS1
        clear hS1
        refine hK _ _ (fun _ => hS) ?_
        clear hK K
        try simp only [Act.put, List.setIfInBounds_toArray, List.set_cons_zero, List.set_cons_succ]
        refine wpAnyM_two (i := 5) (j := 10) (by kernel_rfl) rfl rfl (fun K hK => ?_) (fun K hK => ?_)
        · have cv := CV1.out _ (Below.refl _ _)
          go_simp
          refine hK _ _ (fun _ => hS) ?_
          clear hK K cv
          try simp only [Act.put, List.setIfInBounds_toArray, List.set_cons_zero, List.set_cons_succ]
          refine wpAnyM_one (i := 10) (by kernel_rfl) rfl (fun K hK => ?_)
          go_simp
          go_at_call 200
          refine (HeR.out _ hS.1).mono ?_
          rintro e w2 ⟨A2, n2, c2, rfl, h2, hb2⟩
          have hS2 := Sof.out w2 (hS.1.trans (hb2.mono hS.1.size))
          have r2 := Rd.of_own h2
          have cv2 := fun W (hb : Below w2.heap.size w2 W) => conv_bytes (P := Tryz.prog) (c := c2) 26 9 5 Tryz.underlying26 Tryz.underlying5 Tryz.underlying9 (r2.below hb)
          have CV2 := Lib.hid cv2
          have B2 := Lib.hid hb2
          clear hS h2 r2 cv2 hb2
          have hS := hS2
          clear hS2
          refine hK _ _ (fun _ => hS) ?_
          clear hK K
          try simp only [Act.put, List.setIfInBounds_toArray, List.set_cons_zero, List.set_cons_succ]
          refine wpAnyM_one (i := 11) (by kernel_rfl) rfl (fun K hK => ?_)
          have cv := CV2.out _ (Below.refl _ _)
          go_simp
          refine hK _ _ (fun _ => hS) ?_
          clear hK K cv
          try simp only [Act.put, List.setIfInBounds_toArray, List.set_cons_zero, List.set_cons_succ]
          refine wpAnyM_one (i := 12) (by kernel_rfl) rfl (fun K hK => ?_)
          go_simp
          refine hK _ _ (fun h => absurd rfl h) ?_
          clear hK K
          refine wpAnyM_done (by kernel_rfl) ?_ _
          go_wp2_with fail
          go_meet
          case rel => exact ⟨rfl, hS.1⟩
        · go_simp
          go_at_call 200
          refine (HeR.out _ hS.1).mono ?_
          rintro e w2 ⟨A2, n2, c2, rfl, h2, hb2⟩
          have hS2 := Sof.out w2 (hS.1.trans (hb2.mono hS.1.size))
          have r2 := Rd.of_own h2
          have cv2 := fun W (hb : Below w2.heap.size w2 W) => conv_bytes (P := Tryz.prog) (c := c2) 26 9 5 Tryz.underlying26 Tryz.underlying5 Tryz.underlying9 (r2.below hb)
          have CV2 := Lib.hid cv2
          have B2 := Lib.hid hb2
          clear hS h2 r2 cv2 hb2
          have hS := hS2
          clear hS2
          refine hK _ _ (fun _ => hS) ?_
          clear hK K
          try simp only [Act.put, List.setIfInBounds_toArray, List.set_cons_zero, List.set_cons_succ]
          refine wpAnyM_two (i := 5) (j := 11) (by kernel_rfl) rfl rfl (fun K hK => ?_) (fun K hK => ?_)
          · have cv := CV1.out _ B2.out
            go_simp
            refine hK _ _ (fun _ => hS) ?_
            clear hK K cv
            try simp only [Act.put, List.setIfInBounds_toArray, List.set_cons_zero, List.set_cons_succ]
            refine wpAnyM_one (i := 11) (by kernel_rfl) rfl (fun K hK => ?_)
            have cv := CV2.out _ (Below.refl _ _)
            go_simp
            refine hK _ _ (fun _ => hS) ?_
            clear hK K cv
            try simp only [Act.put, List.setIfInBounds_toArray, List.set_cons_zero, List.set_cons_succ]
            refine wpAnyM_one (i := 12) (by kernel_rfl) rfl (fun K hK => ?_)
            go_simp
            refine hK _ _ (fun h => absurd rfl h) ?_
            clear hK K
            refine wpAnyM_done (by kernel_rfl) ?_ _
            go_wp2_with fail
            go_meet
            case rel => exact ⟨rfl, hS.1⟩
          · have cv := CV2.out _ (Below.refl _ _)
            go_simp
            refine hK _ _ (fun _ => hS) ?_
            clear hK K cv
            try simp only [Act.put, List.setIfInBounds_toArray, List.set_cons_zero, List.set_cons_succ]
            refine wpAnyM_one (i := 5) (by kernel_rfl) rfl (fun K hK => ?_)
            have cv := CV1.out _ B2.out
            go_simp
            refine hK _ _ (fun _ => hS) ?_
            clear hK K cv
            try simp only [Act.put, List.setIfInBounds_toArray, List.set_cons_zero, List.set_cons_succ]
            refine wpAnyM_one (i := 12) (by kernel_rfl) rfl (fun K hK => ?_)
            go_simp
            refine hK _ _ (fun h => absurd rfl h) ?_
            clear hK K
            refine wpAnyM_done (by kernel_rfl) ?_ _
            go_wp2_with fail
            go_meet
            case rel => exact ⟨rfl, hS.1⟩
      case rest =>
        obtain ⟨rfl, hb5⟩ := hcut
        have hb6 := Hbe.out.trans (hb5.mono Hbe.out.size)
        have Hb6 := Lib.hid hb6
        clear hb5 hb6 s0
        go_wp2_with fail
        go_roundg (n - (k + 1))
        case measure => have := Hmu.out; omega
        case rel => exact ⟨k + 1, rfl, by omega, by go_num, Hb6.out⟩
    · have hdd : decide ((k : Int) < (n : Int)) = false := by simp; omega
      go_wp2_with fail
      go_ret
      exact ⟨rfl, hbe⟩
end Go.Proofs.YtmhaahcbmdhinaaGreatDoor
namespace Go.Proofs.YtmhaahcbmdhinaaGreatDoor
open Go.RowKit
set_option maxRecDepth 100000
set_option linter.unusedVariables false
set_option linter.unusedSimpArgs false
theorem check_any (b t : Int) (A : Option Addr) (n c : Nat) (L : List Er) (w : World) {ok : Nat → Prop} (hr : Rd w ok 4 A n (flat ecell L)) (hw : Wel L) (hn : n ≤ 1000000) :
    Calls Tryz.prog 93 #[.agg #[.int .i64 b, .int .i64 t, .slice A n c]] w fun e w' => e = .returned (errC (if lmay b t (L.map en) then 0 else 1)) ∧ Below w.heap.size w w' := by
  have hm := fun W (hW : Below w.heap.size w W) => may_any b t A n c L W (hr.below hW) hw hn
  generalize lmay b t (L.map en) = q at hm ⊢
  have Hm := Lib.hid hm
  have Bb := Lib.hid (Bx.new w #[.int .i64 b, .int .i64 t, .slice A n c] 38 rfl)
  clear hm hr hw
  rcases q with _ | _
  · go_enter Tryz.func93, Tryz.ntmps93
    go_wp2_with fail
    refine (Hm.out _ ((Below.refl _ _).alloc (Nat.le_refl _) _)).mono ?_
    rintro e w1 ⟨rfl, hb1⟩
    have hb2 := ((Below.refl w.heap.size w).alloc (Nat.le_refl _) (.cells #[.int .i64 b, .int .i64 t, .slice A n c] 38)).trans (hb1.mono (by simp))
    have Hb2 := Lib.hid hb2
    clear hb1 hb2
    go_wp2_with fail
    go_ret
    exact ⟨rfl, Hb2.out⟩
  · go_enter Tryz.func93, Tryz.ntmps93
    go_wp2_with fail
    refine (Hm.out _ ((Below.refl _ _).alloc (Nat.le_refl _) _)).mono ?_
    rintro e w1 ⟨rfl, hb1⟩
    have hb2 := ((Below.refl w.heap.size w).alloc (Nat.le_refl _) (.cells #[.int .i64 b, .int .i64 t, .slice A n c] 38)).trans (hb1.mono (by simp))
    have Hb2 := Lib.hid hb2
    clear hb1 hb2
    go_wp2_with fail
    go_ret
    exact ⟨rfl, Hb2.out⟩
end Go.Proofs.YtmhaahcbmdhinaaGreatDoor
