/- Walk of the law's longEntries. -/
import Derived.Test.YtefjejlpbfbpcaaDoorRo
namespace Go.Proofs.YtefjejlpbfbpcaaDoor
open Go.RowKit
set_option maxRecDepth 100000
set_option linter.unusedVariables false
set_option linter.unusedSimpArgs false
def sumD (L : List Er) : Nat := (L.map fun x => x.n / 64).sum
def longB (L : List Er) : Bool := decide (200 < L.length) || decide (400 < sumD (L.take 300))
theorem sumD_step {L : List Er} {j : Nat} {x : Er} (h : L[j]? = some x) : sumD (L.take (j + 1)) = sumD (L.take j) + x.n / 64 := by
  unfold sumD
  rw [List.take_add_one, h, List.map_append, List.sum_append]
  simp
theorem sumD_le {L : List Er} {K : Nat} (h : ∀ x ∈ L, x.n ≤ K) : sumD L ≤ L.length * K := by
  unfold sumD
  induction L with
  | nil => simp
  | cons x L ih =>
    have h1 := ih fun y hy => h y (by simp [hy])
    have h2 := h x (by simp)
    simp only [List.map_cons, List.sum_cons, List.length_cons, Nat.succ_mul]
    have : x.n / 64 ≤ x.n := Nat.div_le_self _ _
    omega
theorem sumD_mem {L : List Er} {x : Er} (h : x ∈ L) : x.n / 64 ≤ sumD L := by
  unfold sumD
  induction L with
  | nil => cases h
  | cons y L ih =>
    simp only [List.map_cons, List.sum_cons]
    rcases List.mem_cons.1 h with rfl | h
    · omega
    · have := ih h
      omega
theorem longB_no {L : List Er} (h : longB L = false) : L.length ≤ 200 ∧ ∀ x ∈ L, x.n ≤ 25663 := by
  unfold longB at h
  simp only [Bool.or_eq_false_iff, decide_eq_false_iff_not] at h
  refine ⟨by omega, fun x hx => ?_⟩
  rw [List.take_of_length_le (by omega)] at h
  have := sumD_mem hx
  omega
set_option maxHeartbeats 1600000 in
theorem longs_any (A : Option Addr) (n c : Nat) (L : List Er) (w : World) {ok : Nat → Prop} (hr : Rd w ok 4 A n (flat ecell L)) (hs : ∀ x ∈ L, x.n ≤ 140737488351232) (hn : n ≤ 9223372036854775807) :
    Calls Tryd.prog 8 #[.slice A n c] w (BoolPost w (longB L)) := by
  have Hll := Lib.hid (hr.flen ecell_len (by omega))
  have Hs := Lib.hid hs
  have Hr := Lib.hid hr
  clear hr hs
  go_enter Tryd.func8, Tryd.ntmps8
  go_wp2_with fail
  go_loopg [3, 4] 300 (fun m s3 s4 wr => ∃ (j s : Nat), m = 300 - j ∧ j ≤ 300 ∧ j ≤ n ∧ s4 = .int .i64 j ∧ s3 = .int .i64 s ∧ s = sumD (L.take j) ∧ Below w.heap.size w wr)
  case atStart => exact ⟨0, 0, by omega, by omega, by omega, rfl, rfl, rfl, Below.refl _ _⟩
  case round =>
    obtain ⟨j, s, hm, hj3, hj, rfl, rfl, hsj, hb⟩ := hrel
    have Hm := Lib.hid hm
    have Hsj := Lib.hid hsj
    have Hb := Lib.hid hb
    clear hm hsj hb
    by_cases hlt : j < n ∧ j < 300
    · obtain ⟨hlt, h3⟩ := hlt
      obtain ⟨b, o, x, rfl, _, hbl, hx, c0, c1, c2, c3⟩ := er_cells (Hr.out.below Hb.out) hlt
      have hjI : (j : Int) < n := by omega
      have h3I : (j : Int) < 300 := by omega
      have hst := sumD_step hx
      have hsl : s ≤ 300 * 140737488351232 := by
        have h1 := sumD_le (L := L.take j) (K := 140737488351232) fun y hy => Hs.out y (List.mem_of_mem_take hy)
        have h2 : (L.take j).length ≤ 300 := by rw [List.length_take]; omega
        have h4 := Nat.mul_le_mul_right 140737488351232 h2
        have := Hsj.out
        omega
      have hxn := Hs.out x (List.mem_of_getElem? hx)
      obtain ⟨q, hq⟩ : ∃ q, q = x.n / 64 := ⟨_, rfl⟩
      have hq1 : ((x.n : Nat) : Int) / 64 = (q : Int) := by omega
      have hq2 : ((x.n : Nat) : Int).tdiv 64 = (q : Int) := by rw [Int.tdiv_eq_ediv_of_nonneg (by omega)]; exact hq1
      have hw1 : IntKind.i64.wrap ((s : Int) + (q : Int)) = (s : Int) + q := by rw [IntKind.wrap_i64]; omega
      have hw2 : IntKind.i64.wrap ((q : Nat) : Int) = (q : Int) := by rw [IntKind.wrap_i64]; omega
      rw [← hq, ← Hsj.out] at hst
      have Hst := Lib.hid hst
      clear hx hst hq hxn hsl
      go_wp2_with fail
      go_roundg (300 - (j + 1))
      case measure => have := Hm.out; omega
      case rel => exact ⟨j + 1, s + q, rfl, by omega, by omega, by go_num, by push_cast; rfl, Hst.out.symm, Hb.out⟩
    · have hfin : sumD (L.take 300) = s := by
        rw [Hsj.out]
        by_cases h3 : j = 300
        · rw [h3]
        · have hl := Hll.out
          rw [List.take_of_length_le (by omega), List.take_of_length_le (by omega)]
      have hV : longB L = (decide (200 < (n : Int)) || decide (400 < (s : Int))) := by
        unfold longB
        rw [hfin, Hll.out]
        congr 1
        · simp only [decide_eq_decide]; omega
        · simp only [decide_eq_decide]; omega
      have HV := Lib.hid hV
      clear hfin hV
      have hcase : ¬ ((j : Int) < n) ∨ ((j : Int) < n ∧ ¬ ((j : Int) < 300)) := by omega
      by_cases h2 : 200 < (n : Int)
      · rcases hcase with h | ⟨h, h'⟩
        all_goals
          go_wp2_with fail
          go_ret
          exact ⟨ret_bool (by rw [HV.out, decide_eq_true h2]; rfl), Hb.out⟩
      · have h2d : decide (200 < (n : Int)) = false := decide_eq_false h2
        rcases hcase with h | ⟨h, h'⟩
        all_goals
          go_wp2_with fail
          go_ret
          exact ⟨ret_bool (by rw [HV.out, h2d]; rfl), Hb.out⟩
end Go.Proofs.YtefjejlpbfbpcaaDoor
