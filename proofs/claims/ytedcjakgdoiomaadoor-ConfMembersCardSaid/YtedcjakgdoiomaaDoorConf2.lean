/- Walks: the document's May; Quorum, Near of both. (Printed by mkconf2.py.) -/
import Derived.Test.YtedcjakgdoiomaaDoorConf1
namespace Go.Proofs.YtedcjakgdoiomaaDoor
open Go.RowKit
set_option maxRecDepth 100000
set_option linter.unusedVariables false
set_option linter.unusedSimpArgs false
set_option maxHeartbeats 800000 in
theorem mayR_any (A : Option Addr) (n c : Nat) (l : List Int) (w : World) {ok : Nat → Prop} (hr : Rd w ok 1 A n (ii l)) (hn : n ≤ 1000000) :
    Calls Tryd.prog 11 #[.slice A n c] w (BoolPost w (cmay l)) := by
  have Hl := Lib.hid (ii_len hr)
  go_enter Tryd.func11, Tryd.ntmps11
  go_wp2_with fail
  go_loopg [3] n (fun m s3 wr => ∃ (j : Nat) (a : Int), m = n - j ∧ j ≤ n ∧ s3 = .int .i64 j ∧ incr 0 l = incr a (l.drop j) ∧ 0 ≤ a ∧ (j = 0 → a = 0) ∧ (0 < j → l[j - 1]? = some a) ∧ Below w.heap.size w wr)
  case atStart => exact ⟨0, 0, by omega, by omega, rfl, rfl, by omega, by omega, by omega, Below.refl _ _⟩
  case round =>
    obtain ⟨j, a, hm, hj, rfl, hin, ha0, hj0, hja, hb⟩ := hrel
    have Hm := Lib.hid hm
    have Hin := Lib.hid hin
    have Hja := Lib.hid hja
    clear hm hin hja
    by_cases hlt : j < n
    · obtain ⟨b, o, x, rfl, hob, hbl, hx, hc⟩ := ii_cell (hr.below hb) hlt
      have Hx := Lib.hid hx
      clear hx
      have hltI : (j : Int) < n := by omega
      have h0I : (0 : Int) ≤ j := by omega
      by_cases h1 : x < 1
      · have hf : cmay l = false := by
          unfold cmay
          rw [Hin.out, drop_at Hx.out, incr_cons, decide_eq_false (by omega)]
          rfl
        have Hf := Lib.hid hf
        clear hf
        go_wp2_with fail
        go_quiet (fail)
        go_wp2_with fail
        go_ret
        exact ⟨ret_bool (by rw [Hf.out]), below_drewN hb _⟩
      · have h1d : decide (x < 1) = false := decide_eq_false h1
        by_cases h2 : 64 < x
        · have hf : cmay l = false := by
            unfold cmay
            rw [Hin.out, drop_at Hx.out, incr_cons, decide_eq_false (p := x ≤ 64) (by omega)]
            simp
          have Hf := Lib.hid hf
          clear hf
          go_wp2_with fail
          go_quiet (fail)
          go_wp2_with fail
          go_ret
          exact ⟨ret_bool (by rw [Hf.out]), below_drewN hb _⟩
        · have h2d : decide (64 < x) = false := decide_eq_false h2
          rcases Nat.eq_zero_or_pos j with hz | hz
          · subst hz
            obtain rfl : a = 0 := hj0 rfl
            have hf : incr 0 l = incr x (l.drop 1) := by
              rw [Hin.out, drop_at Hx.out, incr_cons, decide_eq_true (by omega), decide_eq_true (p := x ≤ 64) (by omega)]
              rfl
            have Hf := Lib.hid hf
            have hc0 : wr.cell? ⟨b, o, none⟩ = some (.int .i64 x) := hc
            have h0n : (0 : Int) < (n : Int) := by omega
            clear hf hltI hc h0I
            go_wp2_with fail
            go_quiet (fail)
            go_wp2_with fail
            go_roundg (n - 1)
            case measure => have := Hm.out; omega
            case rel => exact ⟨1, x, rfl, by omega, by go_num, Hf.out, by omega, by omega, fun _ => Hx.out, below_drewN hb _⟩
          · have hzI : (0 : Int) < j := by omega
            obtain ⟨b2, o2, y, e2, _, _, hy, hc2⟩ := ii_cell (hr.below hb) (show j - 1 < n by omega)
            obtain ⟨rfl, rfl⟩ : b = b2 ∧ o = o2 := by injection e2 with e2; injection e2 with e1 e2 _; exact ⟨e1, e2⟩
            obtain rfl : a = y := by have := Hja.out hz; rw [hy] at this; exact (Option.some.inj this).symm
            have hj1 : ((j : Int) - 1) = ((j - 1 : Nat) : Int) := by omega
            have hw1 : IntKind.i64.wrap ((j : Int) - 1) = ((j - 1 : Nat) : Int) := by rw [IntKind.wrap_i64]; omega
            have hj1n : ((j - 1 : Nat) : Int) < n := by omega
            have hj1z : (0 : Int) ≤ ((j - 1 : Nat) : Int) := by omega
            obtain ⟨jm, hjm⟩ : ∃ jm, jm = j - 1 := ⟨_, rfl⟩
            rw [← hjm] at hc2 hw1 hj1n hj1z
            clear hy e2 hj1
            have Hjm := Lib.hid hjm
            clear hjm
            by_cases h3 : x ≤ a
            · have hf : cmay l = false := by
                unfold cmay
                rw [Hin.out, drop_at Hx.out, incr_cons, decide_eq_false (by omega)]
                rfl
              have Hf := Lib.hid hf
              clear hf
              go_wp2_with fail
              go_quiet (fail)
              go_wp2_with fail
              go_ret
              exact ⟨ret_bool (by rw [Hf.out]), below_drewN hb _⟩
            · have h3d : decide (x ≤ a) = false := decide_eq_false h3
              have hf : incr 0 l = incr x (l.drop (j + 1)) := by
                rw [Hin.out, drop_at Hx.out, incr_cons, decide_eq_true (by omega), decide_eq_true (p := x ≤ 64) (by omega)]
                rfl
              have Hf := Lib.hid hf
              clear hf
              go_wp2_with fail
              go_quiet (fail)
              go_wp2_with fail
              go_roundg (n - (j + 1))
              case measure => have := Hm.out; omega
              case rel => exact ⟨j + 1, x, rfl, by omega, by go_num, Hf.out, by omega, by omega, fun _ => Hx.out, below_drewN hb _⟩
    · obtain rfl : j = n := by omega
      have hf0 : cmay l = (decide (1 ≤ j) && decide (j ≤ 7)) := by
        unfold cmay
        rw [Hin.out, Hl.out, List.drop_of_length_le (Nat.le_of_eq Hl.out)]
        simp [incr]
      by_cases h1 : (0 : Int) < j
      · by_cases h2 : (j : Int) < 8
        · have hf : cmay l = true := by rw [hf0, decide_eq_true (by omega), decide_eq_true (by omega)]; rfl
          have Hf := Lib.hid hf
          clear hf hf0
          go_wp2_with fail
          go_ret
          exact ⟨ret_bool (by rw [Hf.out]), hb⟩
        · have hf : cmay l = false := by rw [hf0, decide_eq_false (p := j ≤ 7) (by omega), Bool.and_false]
          have Hf := Lib.hid hf
          clear hf hf0
          go_wp2_with fail
          go_ret
          exact ⟨ret_bool (by rw [Hf.out]), hb⟩
      · have hf : cmay l = false := by rw [hf0, decide_eq_false (p := 1 ≤ j) (by omega), Bool.false_and]
        have Hf := Lib.hid hf
        clear hf hf0
        go_wp2_with fail
        go_ret
        exact ⟨ret_bool (by rw [Hf.out]), hb⟩
theorem filt_len (p : Int → Bool) (l : List Int) (j : Nat) : ((l.take j).filter p).length ≤ j := by
  have h1 := List.length_filter_le p (l.take j)
  rw [List.length_take] at h1
  omega
theorem filt_at {p : Int → Bool} {l : List Int} {j : Nat} {x : Int} (h : l[j]? = some x) : ((l.take (j + 1)).filter p).length = ((l.take j).filter p).length + if p x then 1 else 0 := by
  rw [List.take_add_one, h]
  simp only [Option.toList_some, List.filter_append, List.length_append]
  rw [List.filter_cons]
  split <;> simp

def cP (s : List Int) (x : Int) : Bool := decide (x ∈ s)
def aP (s : List Int) (x : Int) : Bool := !decide (x ∈ s)
theorem quorum_any (A : Option Addr) (n c : Nat) (l : List Int) (B : Option Addr) (m d : Nat) (s : List Int) (w : World) {ok ok' : Nat → Prop} (hr : Rd w ok 1 A n (ii l)) (hn : n ≤ 1000000) (hs : Rd w ok' 1 B m (ii s)) (hm : m ≤ 1000000) :
    Calls Tryd.prog 16 #[.slice A n c, .slice B m d] w (SameBool w (quor l s)) := by
  have Hl := Lib.hid (ii_len hr)
  have hhas := fun x => has_any B m d s x w hs hm
  have hmay := may_any A n c l w hr hn
  have Hhas := Lib.hid hhas
  have Hmay := Lib.hid hmay
  clear hhas hmay
  go_enter Tryd.func16, Tryd.ntmps16
  go_wp2_with fail
  go_loopg [5, 7, 10] n (fun r s5 s7 s10 wr => ∃ j : Nat, r = n - j ∧ j ≤ n ∧ s10 = .int .i64 j ∧ s5 = .int .i64 ((((l.take j).filter (cP s)).length : Nat) : Int) ∧ wr = w)
  case atStart => exact ⟨0, by omega, by omega, rfl, rfl, rfl⟩
  case round =>
    obtain ⟨j, hrm, hj, rfl, rfl, rfl⟩ := hrel
    have Hrm := Lib.hid hrm
    clear hrm
    by_cases hlt : j < n
    · obtain ⟨b, o, x, rfl, _, _, hx, hc⟩ := ii_cell hr hlt
      have hft := filt_at (p := cP s) hx
      have hfl := filt_len (cP s) l j
      have Hft := Lib.hid hft
      have hltI : (j : Int) < n := by omega
      clear hx hft
      generalize ((l.take j).filter (cP s)).length = k at hfl Hft
      go_wp2_with fail
      refine (Hhas.out x).mono ?_
      rintro e w' ⟨rfl, rfl⟩
      rcases hd : decide (x ∈ s) with _ | _
      · have hk : ((l.take (j + 1)).filter (cP s)).length = k := by rw [Hft.out, cP, hd]; rfl
        have Hk := Lib.hid hk
        clear hk hd
        go_wp2_with fail
        go_roundg (n - (j + 1))
        case measure => have := Hrm.out; omega
        case rel => exact ⟨j + 1, rfl, by omega, by go_num, by rw [Hk.out], rfl⟩
      · have hk : ((l.take (j + 1)).filter (cP s)).length = k + 1 := by rw [Hft.out, cP, hd]; rfl
        have Hk := Lib.hid hk
        clear hk hd
        go_wp2_with fail
        go_roundg (n - (j + 1))
        case measure => have := Hrm.out; omega
        case rel => exact ⟨j + 1, rfl, by omega, by go_num, by rw [Hk.out]; go_num, rfl⟩
    · obtain rfl : j = n := by omega
      have hq : quor l s = (cmay l && decide (j < 2 * ((l.take j).filter (cP s)).length)) := by
        unfold quor cnt
        rw [List.take_of_length_le (Nat.le_of_eq Hl.out), Hl.out]
        rfl
      have hfl := filt_len (cP s) l j
      generalize ((l.take j).filter (cP s)).length = k at hq hfl
      go_wp2_with fail
      refine Hmay.out.mono ?_
      rintro e w' ⟨rfl, rfl⟩
      rcases hcm : cmay l with _ | _
      · rw [hcm, Bool.false_and] at hq
        have Hq := Lib.hid hq
        clear hq hcm
        go_wp2_with fail
        go_ret
        exact ⟨ret_bool (by rw [Hq.out]), rfl⟩
      · rw [hcm, Bool.true_and] at hq
        have hw2 : IntKind.i64.wrap ((j : Int).tdiv 2) = ((j / 2 : Nat) : Int) := by
          rw [Int.tdiv_eq_ediv_of_nonneg (by omega), IntKind.wrap_i64]
          omega
        obtain ⟨h2, hh2⟩ : ∃ h2, h2 = j / 2 := ⟨_, rfl⟩
        rw [← hh2] at hw2
        have e1 : ((j : Int) / 2) = (h2 : Int) := by omega
        have hw3 : IntKind.i64.wrap ((h2 : Nat) : Int) = (h2 : Int) := by rw [IntKind.wrap_i64]; omega
        by_cases hgt : (h2 : Int) < k
        · have hq2 : quor l s = true := by rw [hq]; exact decide_eq_true (by omega)
          have Hq := Lib.hid hq2
          clear hq hq2 hcm hh2
          go_wp2_with fail
          go_ret
          exact ⟨ret_bool (by rw [Hq.out]), rfl⟩
        · have hq2 : quor l s = false := by rw [hq]; exact decide_eq_false (by omega)
          have Hq := Lib.hid hq2
          have hgd : decide (h2 < k) = false := decide_eq_false (by omega)
          clear hq hq2 hcm hh2
          go_wp2_with fail
          go_ret
          exact ⟨ret_bool (by rw [Hq.out]), rfl⟩
end Go.Proofs.YtedcjakgdoiomaaDoor
