/- Walks: whether a log may be, and its last entry: the program's and the document's. (Printed by mkmay.py.) -/
import Derived.Test.YtefjejlpbfbpcaaDoorBehind
namespace Go.Proofs.YtefjejlpbfbpcaaDoor
open Go.RowKit
set_option maxRecDepth 100000
set_option linter.unusedVariables false
set_option linter.unusedSimpArgs false
def preB (b t : Int) (n : Nat) : Bool := (decide (b = 0) && decide (t = 0) || decide (1 ≤ b) && decide (b ≤ 1099511627776) && decide (1 ≤ t) && decide (t ≤ 1099511627776)) && decide (n ≤ 4096)
theorem preB_iff {b t : Int} {n : Nat} : preB b t n = true ↔ ((b = 0 ∧ t = 0) ∨ (1 ≤ b ∧ b ≤ 1099511627776 ∧ 1 ≤ t ∧ t ≤ 1099511627776)) ∧ n ≤ 4096 := by
  unfold preB
  simp only [Bool.and_eq_true, Bool.or_eq_true, decide_eq_true_eq, and_assoc]
theorem may_no {b t : Int} {l : List En} {n : Nat} (hn : l.length = n) (h : ¬ (((b = 0 ∧ t = 0) ∨ (1 ≤ b ∧ b ≤ 1099511627776 ∧ 1 ≤ t ∧ t ≤ 1099511627776)) ∧ n ≤ 4096)) : lmay b t l = false := by
  subst hn
  rw [← preB_iff] at h
  simp only [Bool.not_eq_true] at h
  show (preB b t l.length && rgt b t 0 l) = false
  rw [h, Bool.false_and]
theorem may_yes {b t : Int} {l : List En} {n : Nat} (hn : l.length = n) (h : ((b = 0 ∧ t = 0) ∨ (1 ≤ b ∧ b ≤ 1099511627776 ∧ 1 ≤ t ∧ t ≤ 1099511627776)) ∧ n ≤ 4096) : lmay b t l = rgt b t 0 l := by
  subst hn
  rw [← preB_iff] at h
  show (preB b t l.length && rgt b t 0 l) = rgt b t 0 l
  rw [h, Bool.true_and]
set_option maxHeartbeats 1600000 in
theorem may_any (b t : Int) (A : Option Addr) (n c : Nat) (L : List Er) (w : World) {ok : Nat → Prop} (hr : Rd w ok 4 A n (flat ecell L)) (hw : Wel L) (hn : n ≤ 1000000) :
    Calls Tryd.prog 31 #[.agg #[.int .i64 b, .int .i64 t, .slice A n c]] w (BoolPost w (lmay b t (L.map en))) := by
  have Hll := Lib.hid (hr.flen ecell_len (by omega))
  have hrt := fun ix tm W (h : Rd W ok 4 A n (flat ecell L)) => right_any ix tm A n c L W h hw hn
  clear hw
  by_cases hb0 : b = 0
  · subst hb0
    by_cases ht0 : t = 0
    · subst ht0
      by_cases hl : (n : Int) ≤ 4096
      · have hf := may_yes (b := (0 : Int)) (t := (0 : Int)) (l := L.map en) (n := n) (by simp [Hll.out]) (by omega)
        rw [hf]
        have Hrt := Lib.hid (fun ob => hrt (0 : Int) (0 : Int) (w.alloc ob) (hr.alloc ob))
        clear hf
        go_enter Tryd.func31, Tryd.ntmps31
        go_wp2_with fail
        all_goals
          refine (Hrt.out _).mono ?_
          rintro e w2 ⟨rfl, hb2⟩
          go_wp2_with fail
          go_ret
          exact ⟨rfl, ((Below.refl _ _).alloc (Nat.le_refl _) _).trans (hb2.mono (by simp))⟩
      · have hld : decide ((n : Int) ≤ 4096) = false := decide_eq_false hl
        have hf := may_no (b := (0 : Int)) (t := (0 : Int)) (l := L.map en) (n := n) (by simp [Hll.out]) (by omega)
        have Hf := Lib.hid hf
        clear hf
        go_enter Tryd.func31, Tryd.ntmps31
        go_wp2_with fail
        all_goals
          go_ret
          exact ⟨ret_bool Hf.out.symm, (Below.refl _ _).alloc (Nat.le_refl _) _⟩
    · have e1 : (t == 0) = false := by simpa using ht0
      have hf := may_no (b := (0 : Int)) (t := t) (l := L.map en) (n := n) (by simp [Hll.out]) (by omega)
      have Hf := Lib.hid hf
      clear hf
      go_enter Tryd.func31, Tryd.ntmps31
      go_wp2_with fail
      all_goals
        go_ret
        exact ⟨ret_bool Hf.out.symm, (Below.refl _ _).alloc (Nat.le_refl _) _⟩
  · have e1 : (b == 0) = false := by simpa using hb0
    by_cases h4 : 1 ≤ b
    · by_cases h3 : b ≤ 1099511627776
      · by_cases h2 : 1 ≤ t
        · by_cases h1 : t ≤ 1099511627776
          · by_cases hl : (n : Int) ≤ 4096
            · have hf := may_yes (b := b) (t := t) (l := L.map en) (n := n) (by simp [Hll.out]) (by omega)
              rw [hf]
              have Hrt := Lib.hid (fun ob => hrt b t (w.alloc ob) (hr.alloc ob))
              clear hf
              go_enter Tryd.func31, Tryd.ntmps31
              go_wp2_with fail
              all_goals
                refine (Hrt.out _).mono ?_
                rintro e w2 ⟨rfl, hb2⟩
                go_wp2_with fail
                go_ret
                exact ⟨rfl, ((Below.refl _ _).alloc (Nat.le_refl _) _).trans (hb2.mono (by simp))⟩
            · have hld : decide ((n : Int) ≤ 4096) = false := decide_eq_false hl
              have hf := may_no (b := b) (t := t) (l := L.map en) (n := n) (by simp [Hll.out]) (by omega)
              have Hf := Lib.hid hf
              clear hf
              go_enter Tryd.func31, Tryd.ntmps31
              go_wp2_with fail
              all_goals
                go_ret
                exact ⟨ret_bool Hf.out.symm, (Below.refl _ _).alloc (Nat.le_refl _) _⟩
          · have d1 : decide (t ≤ 1099511627776) = false := decide_eq_false h1
            have hf := may_no (b := b) (t := t) (l := L.map en) (n := n) (by simp [Hll.out]) (by omega)
            have Hf := Lib.hid hf
            clear hf
            go_enter Tryd.func31, Tryd.ntmps31
            go_wp2_with fail
            all_goals
              go_ret
              exact ⟨ret_bool Hf.out.symm, (Below.refl _ _).alloc (Nat.le_refl _) _⟩
        · have d2 : decide (1 ≤ t) = false := decide_eq_false h2
          have hf := may_no (b := b) (t := t) (l := L.map en) (n := n) (by simp [Hll.out]) (by omega)
          have Hf := Lib.hid hf
          clear hf
          go_enter Tryd.func31, Tryd.ntmps31
          go_wp2_with fail
          all_goals
            go_ret
            exact ⟨ret_bool Hf.out.symm, (Below.refl _ _).alloc (Nat.le_refl _) _⟩
      · have d3 : decide (b ≤ 1099511627776) = false := decide_eq_false h3
        have hf := may_no (b := b) (t := t) (l := L.map en) (n := n) (by simp [Hll.out]) (by omega)
        have Hf := Lib.hid hf
        clear hf
        go_enter Tryd.func31, Tryd.ntmps31
        go_wp2_with fail
        all_goals
          go_ret
          exact ⟨ret_bool Hf.out.symm, (Below.refl _ _).alloc (Nat.le_refl _) _⟩
    · have d4 : decide (1 ≤ b) = false := decide_eq_false h4
      have hf := may_no (b := b) (t := t) (l := L.map en) (n := n) (by simp [Hll.out]) (by omega)
      have Hf := Lib.hid hf
      clear hf
      go_enter Tryd.func31, Tryd.ntmps31
      go_wp2_with fail
      all_goals
        go_ret
        exact ⟨ret_bool Hf.out.symm, (Below.refl _ _).alloc (Nat.le_refl _) _⟩
set_option maxHeartbeats 1600000 in
theorem mayR_any (b t : Int) (A : Option Addr) (n c : Nat) (L : List Er) (w : World) {ok : Nat → Prop} (hr : Rd w ok 4 A n (flat ecell L)) (hw : Wel L) (hn : n ≤ 1000000) :
    Calls Tryd.prog 18 #[.agg #[.int .i64 b, .int .i64 t, .slice A n c]] w (BoolPost w (lmay b t (L.map en))) := by
  have Hll := Lib.hid (hr.flen ecell_len (by omega))
  have hrt := fun ix tm W (h : Rd W ok 4 A n (flat ecell L)) => behind_any ix tm A n c L W h hw hn
  clear hw
  by_cases h4 : b < 0
  · have hf := may_no (b := b) (t := t) (l := L.map en) (n := n) (by simp [Hll.out]) (by omega)
    have Hf := Lib.hid hf
    clear hf
    go_enter Tryd.func18, Tryd.ntmps18
    go_wp2_with fail
    all_goals
      go_ret
      exact ⟨ret_bool Hf.out.symm, (Below.refl _ _).alloc (Nat.le_refl _) _⟩
  · have d4 : decide (b < 0) = false := decide_eq_false h4
    by_cases h3 : 1099511627776 < b
    · have hf := may_no (b := b) (t := t) (l := L.map en) (n := n) (by simp [Hll.out]) (by omega)
      have Hf := Lib.hid hf
      clear hf
      go_enter Tryd.func18, Tryd.ntmps18
      go_wp2_with fail
      all_goals
        go_ret
        exact ⟨ret_bool Hf.out.symm, (Below.refl _ _).alloc (Nat.le_refl _) _⟩
    · have d3 : decide (1099511627776 < b) = false := decide_eq_false h3
      by_cases h2 : t < 0
      · have hf := may_no (b := b) (t := t) (l := L.map en) (n := n) (by simp [Hll.out]) (by omega)
        have Hf := Lib.hid hf
        clear hf
        go_enter Tryd.func18, Tryd.ntmps18
        go_wp2_with fail
        all_goals
          go_ret
          exact ⟨ret_bool Hf.out.symm, (Below.refl _ _).alloc (Nat.le_refl _) _⟩
      · have d2 : decide (t < 0) = false := decide_eq_false h2
        by_cases h1 : 1099511627776 < t
        · have hf := may_no (b := b) (t := t) (l := L.map en) (n := n) (by simp [Hll.out]) (by omega)
          have Hf := Lib.hid hf
          clear hf
          go_enter Tryd.func18, Tryd.ntmps18
          go_wp2_with fail
          all_goals
            go_ret
            exact ⟨ret_bool Hf.out.symm, (Below.refl _ _).alloc (Nat.le_refl _) _⟩
        · have d1 : decide (1099511627776 < t) = false := decide_eq_false h1
          by_cases hb0 : b = 0
          · subst hb0
            by_cases ht0 : t = 0
            · subst ht0
              by_cases hl : 4096 < (n : Int)
              · have hf := may_no (b := (0 : Int)) (t := (0 : Int)) (l := L.map en) (n := n) (by simp [Hll.out]) (by omega)
                have Hf := Lib.hid hf
                clear hf
                go_enter Tryd.func18, Tryd.ntmps18
                go_wp2_with fail
                all_goals
                  go_ret
                  exact ⟨ret_bool Hf.out.symm, (Below.refl _ _).alloc (Nat.le_refl _) _⟩
              · have hld : decide (4096 < (n : Int)) = false := decide_eq_false hl
                have hf := may_yes (b := (0 : Int)) (t := (0 : Int)) (l := L.map en) (n := n) (by simp [Hll.out]) (by omega)
                rw [hf]
                have Hrt := Lib.hid (fun ob => hrt (0 : Int) (0 : Int) (w.alloc ob) (hr.alloc ob))
                clear hf
                go_enter Tryd.func18, Tryd.ntmps18
                go_wp2_with fail
                all_goals
                  refine (Hrt.out _).mono ?_
                  rintro e w2 ⟨rfl, hb2⟩
                  go_wp2_with fail
                  go_ret
                  exact ⟨rfl, ((Below.refl _ _).alloc (Nat.le_refl _) _).trans (hb2.mono (by simp))⟩
            · have e1 : (t == 0) = false := by simpa using ht0
              have hf := may_no (b := (0 : Int)) (t := t) (l := L.map en) (n := n) (by simp [Hll.out]) (by omega)
              have Hf := Lib.hid hf
              clear hf
              go_enter Tryd.func18, Tryd.ntmps18
              go_wp2_with fail
              all_goals
                go_ret
                exact ⟨ret_bool Hf.out.symm, (Below.refl _ _).alloc (Nat.le_refl _) _⟩
          · have e1 : (b == 0) = false := by simpa using hb0
            by_cases ht0 : t = 0
            · subst ht0
              have hf := may_no (b := b) (t := (0 : Int)) (l := L.map en) (n := n) (by simp [Hll.out]) (by omega)
              have Hf := Lib.hid hf
              clear hf
              go_enter Tryd.func18, Tryd.ntmps18
              go_wp2_with fail
              all_goals
                go_ret
                exact ⟨ret_bool Hf.out.symm, (Below.refl _ _).alloc (Nat.le_refl _) _⟩
            · have e2 : (t == 0) = false := by simpa using ht0
              by_cases hl : 4096 < (n : Int)
              · have hf := may_no (b := b) (t := t) (l := L.map en) (n := n) (by simp [Hll.out]) (by omega)
                have Hf := Lib.hid hf
                clear hf
                go_enter Tryd.func18, Tryd.ntmps18
                go_wp2_with fail
                all_goals
                  go_ret
                  exact ⟨ret_bool Hf.out.symm, (Below.refl _ _).alloc (Nat.le_refl _) _⟩
              · have hld : decide (4096 < (n : Int)) = false := decide_eq_false hl
                have hf := may_yes (b := b) (t := t) (l := L.map en) (n := n) (by simp [Hll.out]) (by omega)
                rw [hf]
                have Hrt := Lib.hid (fun ob => hrt b t (w.alloc ob) (hr.alloc ob))
                clear hf
                go_enter Tryd.func18, Tryd.ntmps18
                go_wp2_with fail
                all_goals
                  refine (Hrt.out _).mono ?_
                  rintro e w2 ⟨rfl, hb2⟩
                  go_wp2_with fail
                  go_ret
                  exact ⟨rfl, ((Below.refl _ _).alloc (Nat.le_refl _) _).trans (hb2.mono (by simp))⟩
def TwoInt (W : World) (x y : Int) (e : Ending) (w' : World) : Prop := e = .returned (.tuple #[.int .i64 x, .int .i64 y]) ∧ Below W.heap.size W w'
theorem last_any (b t : Int) (A : Option Addr) (n c : Nat) (L : List Er) (w : World) {ok : Nat → Prop} (hr : Rd w ok 4 A n (flat ecell L)) (hn : n ≤ 1000000) :
    Calls Tryd.prog 34 #[.agg #[.int .i64 b, .int .i64 t, .slice A n c]] w (TwoInt w (lstA b (L.map en)) (lstB t (L.map en))) := by
  have hll := hr.flen ecell_len (by omega)
  by_cases h0 : n = 0
  · subst h0
    obtain rfl : L = [] := List.eq_nil_of_length_eq_zero hll
    clear hll hr
    go_enter Tryd.func34, Tryd.ntmps34
    go_wp2_with fail
    go_quiet (fail)
    go_wp2_with fail
    go_ret2
    exact ⟨rfl, below_drewN ((Below.refl _ _).alloc (Nat.le_refl _) _) _⟩
  · obtain ⟨m, rfl⟩ : ∃ m, n = m + 1 := ⟨n - 1, by omega⟩
    obtain ⟨bk, o, x, rfl, _, hbl, hx, c0, c1, c2, c3⟩ := er_cells hr (j := m) (by omega)
    obtain ⟨e, he, ha, hb⟩ := lstA_len (b := b) (l := L.map en) (by simp; omega)
    have hex : e = en x := by
      rw [List.getElem?_map, List.length_map, hll, Nat.add_sub_cancel, hx] at he
      exact (Option.some.inj he).symm
    rw [ha, hb t, hex]
    have hA : (en x).a = x.a := rfl
    have hB : (en x).b = x.b := rfl
    rw [hA, hB]
    have hmI : (0 : Int) < (m : Int) + 1 := by omega
    have hm0 : (0 : Int) ≤ (m : Int) := by omega
    have hml : (m : Int) < (m : Int) + 1 := by omega
    have hwm : IntKind.i64.wrap (m : Int) = (m : Int) := by rw [IntKind.wrap_i64]; omega
    have a0 : ∀ ob, (w.alloc ob).cell? ⟨bk, o + m * 4, none⟩ = some (.int .i64 x.a) := fun ob => (((Below.refl w.heap.size w).alloc (Nat.le_refl _) ob).cell (p := ⟨bk, o + m * 4, none⟩) hbl).trans c0
    have a1 : ∀ ob, (w.alloc ob).cell? ⟨bk, o + m * 4 + 1, none⟩ = some (.int .i64 x.b) := fun ob => (((Below.refl w.heap.size w).alloc (Nat.le_refl _) ob).cell (p := ⟨bk, o + m * 4 + 1, none⟩) hbl).trans c1
    clear he ha hb hex hr hll hx
    go_enter Tryd.func34, Tryd.ntmps34
    go_wp2_with fail
    go_quiet (fail)
    go_wp2_with fail
    go_ret2
    exact ⟨rfl, below_drewN ((Below.refl _ _).alloc (Nat.le_refl _) _) _⟩
end Go.Proofs.YtefjejlpbfbpcaaDoor
