/- Walk of tollbarref09.Behind. (Printed by mkright.py.)
   Walks: whether a log may be, and its last entry: the program's and the document's. (Printed by mkmay.py.)
   Walk of the document's Last.
   Plain law of logs, on.
   Walks of the log's term; of Last, Term. -/
import Derived.Test.YtlecglmiigdjlaaGreatDoorRows
import Derived.Test.YtlecglmiigdjlaaGreatDoorZb1
import Derived.RegionTactic
import Derived.Deep.LoopGhost
import Derived.Deep.DeepCutAuto
import Derived.BigQuiet
namespace Go.Proofs.YtlecglmiigdjlaaGreatDoor
open Go.RowKit
set_option maxRecDepth 100000
set_option linter.unusedVariables false
set_option linter.unusedSimpArgs false
set_option maxHeartbeats 4000000 in
theorem behind_any (ix tm : Int) (A : Option Addr) (n c : Nat) (L : List Er) (w : World) {ok : Nat → Prop} (hr : Rd w ok 4 A n (flat ecell L)) (hw : Wel L) (hn : n ≤ 1000000) :
    Calls Tryz.prog 113 #[.int .i64 ix, .int .i64 tm, .slice A n c] w (BoolPost w (rgt ix tm 0 (L.map en))) := by
  have hll := hr.flen ecell_len (by omega)
  obtain ⟨Q, hQ⟩ : ∃ Q, rgt ix tm 0 (L.map en) = Q := ⟨_, rfl⟩
  rw [hQ]
  have HQ := Lib.hid hQ
  have Hll := Lib.hid hll
  have Hw := Lib.hid hw
  clear hQ hll hw
  go_enter Tryz.func113, Tryz.ntmps113
  go_wp2_with fail
  go_loopg [1, 7, 8] n (fun m s1 s7 s8 wr => ∃ (j : Nat) (tj : Int), m = n - j ∧ j ≤ n ∧ s7 = .int .i64 j ∧ s1 = .int .i64 tj ∧ rgt ix tj j ((L.map en).drop j) = Q ∧ Below w.heap.size w wr)
  case atStart => exact ⟨0, tm, by omega, by omega, rfl, rfl, HQ.out, Below.refl _ _⟩
  case round =>
    obtain ⟨j, tj, hm, hj, rfl, rfl, hq, hb⟩ := hrel
    have Hm := Lib.hid hm
    have Hq := Lib.hid hq
    have Hb := Lib.hid hb
    clear hm hq hb
    by_cases hlt : j < n
    · obtain ⟨b, o, x, rfl, _, hbl, hx, c0, c1, c2, c3⟩ := er_cells (hr.below Hb.out) hlt
      have hjI : (j : Int) < n := by omega
      have hwx := Hw.out x (List.mem_of_getElem? hx)
      have hs := rgt_step (ix := ix) (tm := tj) (l := L.map en) (i := j) (e := en x) (by rw [List.getElem?_map, hx]; rfl)
      rw [Hq.out] at hs
      have Hs := Lib.hid hs
      have hxa := hwx.1.1
      have hxn := hwx.2
      have Hxn := Lib.hid hxn
      unfold I64 at hxa
      clear hx hs hwx hxn
      by_cases t1 : x.a < 1
      · have hf : Q = false := rgt_no Hs.out fun h => by
          have h' : 1 ≤ x.a ∧ x.a - j - 1 = ix ∧ x.a ≤ 1099511627776 ∧ tj ≤ x.b ∧ 1 ≤ x.b ∧ x.b ≤ 1099511627776 ∧ 0 ≤ x.c ∧ x.c ≤ 2 ∧ x.d.length ≤ 4096 := okE_iff.1 h
          have := Hxn.out
          try simp only [bne_iff_ne, ne_eq] at *
          omega
        have Hf := Lib.hid hf
        clear hf
        go_wp2_with fail
        all_goals
          go_ret
          exact ⟨ret_bool Hf.out.symm, Hb.out.alloc Hb.out.size _⟩
      · have t1d : decide (x.a < 1) = false := decide_eq_false t1
        by_cases t3 : 1099511627776 < x.a
        · have hf : Q = false := rgt_no Hs.out fun h => by
            have h' : 1 ≤ x.a ∧ x.a - j - 1 = ix ∧ x.a ≤ 1099511627776 ∧ tj ≤ x.b ∧ 1 ≤ x.b ∧ x.b ≤ 1099511627776 ∧ 0 ≤ x.c ∧ x.c ≤ 2 ∧ x.d.length ≤ 4096 := okE_iff.1 h
            have := Hxn.out
            try simp only [bne_iff_ne, ne_eq] at *
            omega
          have Hf := Lib.hid hf
          clear hf
          go_wp2_with fail
          all_goals
            go_ret
            exact ⟨ret_bool Hf.out.symm, Hb.out.alloc Hb.out.size _⟩
        · have t3d : decide (1099511627776 < x.a) = false := decide_eq_false t3
          have w1 : IntKind.i64.wrap (x.a - 1) = x.a - 1 := by rw [IntKind.wrap_i64]; omega
          have w2 : IntKind.i64.wrap (x.a - 1 - (j : Int)) = x.a - 1 - j := by rw [IntKind.wrap_i64]; omega
          by_cases t2 : (x.a - 1 - (j : Int) != ix) = true
          · have hf : Q = false := rgt_no Hs.out fun h => by
              have h' : 1 ≤ x.a ∧ x.a - j - 1 = ix ∧ x.a ≤ 1099511627776 ∧ tj ≤ x.b ∧ 1 ≤ x.b ∧ x.b ≤ 1099511627776 ∧ 0 ≤ x.c ∧ x.c ≤ 2 ∧ x.d.length ≤ 4096 := okE_iff.1 h
              have := Hxn.out
              try simp only [bne_iff_ne, ne_eq] at *
              omega
            have Hf := Lib.hid hf
            clear hf
            go_wp2_with fail
            all_goals
              go_ret
              exact ⟨ret_bool Hf.out.symm, Hb.out.alloc Hb.out.size _⟩
          · have t2d : (x.a - 1 - (j : Int) != ix) = false := by simpa using t2
            have t2e : x.a - 1 - (j : Int) = ix := by simpa using t2d
            have T2 := Lib.hid t2e
            clear t2e
            by_cases t4b : x.b < 1
            · have hf : Q = false := rgt_no Hs.out fun h => by
                have h' : 1 ≤ x.a ∧ x.a - j - 1 = ix ∧ x.a ≤ 1099511627776 ∧ tj ≤ x.b ∧ 1 ≤ x.b ∧ x.b ≤ 1099511627776 ∧ 0 ≤ x.c ∧ x.c ≤ 2 ∧ x.d.length ≤ 4096 := okE_iff.1 h
                have := Hxn.out
                try simp only [bne_iff_ne, ne_eq] at *
                omega
              have Hf := Lib.hid hf
              clear hf
              go_wp2_with fail
              all_goals
                go_ret
                exact ⟨ret_bool Hf.out.symm, Hb.out.alloc Hb.out.size _⟩
            · have t4bd : decide (x.b < 1) = false := decide_eq_false t4b
              by_cases t4 : x.b < tj
              · have hf : Q = false := rgt_no Hs.out fun h => by
                  have h' : 1 ≤ x.a ∧ x.a - j - 1 = ix ∧ x.a ≤ 1099511627776 ∧ tj ≤ x.b ∧ 1 ≤ x.b ∧ x.b ≤ 1099511627776 ∧ 0 ≤ x.c ∧ x.c ≤ 2 ∧ x.d.length ≤ 4096 := okE_iff.1 h
                  have := Hxn.out
                  try simp only [bne_iff_ne, ne_eq] at *
                  omega
                have Hf := Lib.hid hf
                clear hf
                go_wp2_with fail
                all_goals
                  go_ret
                  exact ⟨ret_bool Hf.out.symm, Hb.out.alloc Hb.out.size _⟩
              · have t4d : decide (x.b < tj) = false := decide_eq_false t4
                by_cases t5 : 1099511627776 < x.b
                · have hf : Q = false := rgt_no Hs.out fun h => by
                    have h' : 1 ≤ x.a ∧ x.a - j - 1 = ix ∧ x.a ≤ 1099511627776 ∧ tj ≤ x.b ∧ 1 ≤ x.b ∧ x.b ≤ 1099511627776 ∧ 0 ≤ x.c ∧ x.c ≤ 2 ∧ x.d.length ≤ 4096 := okE_iff.1 h
                    have := Hxn.out
                    try simp only [bne_iff_ne, ne_eq] at *
                    omega
                  have Hf := Lib.hid hf
                  clear hf
                  go_wp2_with fail
                  all_goals
                    go_ret
                    exact ⟨ret_bool Hf.out.symm, Hb.out.alloc Hb.out.size _⟩
                · have t5d : decide (1099511627776 < x.b) = false := decide_eq_false t5
                  by_cases t6 : x.c < 0
                  · have hf : Q = false := rgt_no Hs.out fun h => by
                      have h' : 1 ≤ x.a ∧ x.a - j - 1 = ix ∧ x.a ≤ 1099511627776 ∧ tj ≤ x.b ∧ 1 ≤ x.b ∧ x.b ≤ 1099511627776 ∧ 0 ≤ x.c ∧ x.c ≤ 2 ∧ x.d.length ≤ 4096 := okE_iff.1 h
                      have := Hxn.out
                      try simp only [bne_iff_ne, ne_eq] at *
                      omega
                    have Hf := Lib.hid hf
                    clear hf
                    go_wp2_with fail
                    all_goals
                      go_ret
                      exact ⟨ret_bool Hf.out.symm, Hb.out.alloc Hb.out.size _⟩
                  · have t6d : decide (x.c < 0) = false := decide_eq_false t6
                    by_cases t7 : 2 < x.c
                    · have hf : Q = false := rgt_no Hs.out fun h => by
                        have h' : 1 ≤ x.a ∧ x.a - j - 1 = ix ∧ x.a ≤ 1099511627776 ∧ tj ≤ x.b ∧ 1 ≤ x.b ∧ x.b ≤ 1099511627776 ∧ 0 ≤ x.c ∧ x.c ≤ 2 ∧ x.d.length ≤ 4096 := okE_iff.1 h
                        have := Hxn.out
                        try simp only [bne_iff_ne, ne_eq] at *
                        omega
                      have Hf := Lib.hid hf
                      clear hf
                      go_wp2_with fail
                      all_goals
                        go_ret
                        exact ⟨ret_bool Hf.out.symm, Hb.out.alloc Hb.out.size _⟩
                    · have t7d : decide (2 < x.c) = false := decide_eq_false t7
                      by_cases t8 : 4096 < (x.n : Int)
                      · have hf : Q = false := rgt_no Hs.out fun h => by
                          have h' : 1 ≤ x.a ∧ x.a - j - 1 = ix ∧ x.a ≤ 1099511627776 ∧ tj ≤ x.b ∧ 1 ≤ x.b ∧ x.b ≤ 1099511627776 ∧ 0 ≤ x.c ∧ x.c ≤ 2 ∧ x.d.length ≤ 4096 := okE_iff.1 h
                          have := Hxn.out
                          try simp only [bne_iff_ne, ne_eq] at *
                          omega
                        have Hf := Lib.hid hf
                        clear hf
                        go_wp2_with fail
                        all_goals
                          go_ret
                          exact ⟨ret_bool Hf.out.symm, Hb.out.alloc Hb.out.size _⟩
                      · have t8d : decide (4096 < (x.n : Int)) = false := decide_eq_false t8
                        have hok : okE ix tj j (en x) = true := okE_iff.2 (by
                          show 1 ≤ x.a ∧ x.a - j - 1 = ix ∧ x.a ≤ 1099511627776 ∧ tj ≤ x.b ∧ 1 ≤ x.b ∧ x.b ≤ 1099511627776 ∧ 0 ≤ x.c ∧ x.c ≤ 2 ∧ x.d.length ≤ 4096
                          have := Hxn.out
                          have := T2.out
                          omega)
                        have hq2 := rgt_yes Hs.out hok
                        have Hq2 := Lib.hid hq2
                        clear hok hq2
                        go_wp2_with fail
                        all_goals
                          go_roundg (n - (j + 1))
                          case measure => have := Hm.out; omega
                          case rel => exact ⟨j + 1, x.b, rfl, by omega, by go_num, rfl, Hq2.out, Hb.out.alloc Hb.out.size _⟩
    · obtain rfl : j = n := by omega
      have hf : Q = true := by
        rw [← Hq.out, List.drop_of_length_le (by simp [Hll.out])]
        rfl
      have Hf := Lib.hid hf
      clear hf
      go_wp2_with fail
      go_ret
      exact ⟨ret_bool Hf.out.symm, Hb.out⟩
end Go.Proofs.YtlecglmiigdjlaaGreatDoor
namespace Go.Proofs.YtlecglmiigdjlaaGreatDoor
open Go.RowKit
set_option maxRecDepth 100000
set_option linter.unusedVariables false
set_option linter.unusedSimpArgs false
def preB (b t : Int) (n : Nat) : Bool := (decide (b = 0) && decide (t = 0) || decide (1 ≤ b) && decide (b ≤ 1099511627776) && decide (1 ≤ t) && decide (t ≤ 1099511627776)) && decide (n ≤ 4096)
theorem preB_iff {b t : Int} {n : Nat} : preB b t n = true ↔ ((b = 0 ∧ t = 0) ∨ (1 ≤ b ∧ b ≤ 1099511627776 ∧ 1 ≤ t ∧ t ≤ 1099511627776)) ∧ n ≤ 4096 := by
  unfold preB
  simp only [Bool.and_eq_true, Bool.or_eq_true, decide_eq_true_eq, and_assoc]
theorem may_no {b t : Int} {l : List En} {n : Nat} (hn : l.length = n) (h : ¬ (((b = 0 ∧ t = 0) ∨ (1 ≤ b ∧ b ≤ 1099511627776 ∧ 1 ≤ t ∧ t ≤ 1099511627776)) ∧ n ≤ 4096)) : lmay b t l = false := by
  subst hn
  rw [← preB_iff] at h
  simp only [Bool.not_eq_true] at h
  show (preB b t l.length && rgt b t 0 l) = false
  rw [h, Bool.false_and]
theorem may_yes {b t : Int} {l : List En} {n : Nat} (hn : l.length = n) (h : ((b = 0 ∧ t = 0) ∨ (1 ≤ b ∧ b ≤ 1099511627776 ∧ 1 ≤ t ∧ t ≤ 1099511627776)) ∧ n ≤ 4096) : lmay b t l = rgt b t 0 l := by
  subst hn
  rw [← preB_iff] at h
  show (preB b t l.length && rgt b t 0 l) = rgt b t 0 l
  rw [h, Bool.true_and]
set_option maxHeartbeats 1600000 in
theorem may_any (b t : Int) (A : Option Addr) (n c : Nat) (L : List Er) (w : World) {ok : Nat → Prop} (hr : Rd w ok 4 A n (flat ecell L)) (hw : Wel L) (hn : n ≤ 1000000) :
    Calls Tryz.prog 102 #[.agg #[.int .i64 b, .int .i64 t, .slice A n c]] w (BoolPost w (lmay b t (L.map en))) := by
  have Hll := Lib.hid (hr.flen ecell_len (by omega))
  have hrt := fun ix tm W (h : Rd W ok 4 A n (flat ecell L)) => right_any ix tm A n c L W h hw hn
  clear hw
  by_cases hb0 : b = 0
  · subst hb0
    by_cases ht0 : t = 0
    · subst ht0
      by_cases hl : (n : Int) ≤ 4096
      · have hf := may_yes (b := (0 : Int)) (t := (0 : Int)) (l := L.map en) (n := n) (by simp [Hll.out]) (by omega)
        rw [hf]
        have Hrt := Lib.hid (fun ob => hrt (0 : Int) (0 : Int) (w.alloc ob) (hr.alloc ob))
        clear hf
        go_enter Tryz.func102, Tryz.ntmps102
        go_wp2_with fail
        all_goals
          refine (Hrt.out _).mono ?_
          rintro e w2 ⟨rfl, hb2⟩
          go_wp2_with fail
          go_ret
          exact ⟨rfl, ((Below.refl _ _).alloc (Nat.le_refl _) _).trans (hb2.mono (by simp))⟩
      · have hld : decide ((n : Int) ≤ 4096) = false := decide_eq_false hl
        have hf := may_no (b := (0 : Int)) (t := (0 : Int)) (l := L.map en) (n := n) (by simp [Hll.out]) (by omega)
        have Hf := Lib.hid hf
        clear hf
        go_enter Tryz.func102, Tryz.ntmps102
        go_wp2_with fail
        all_goals
          go_ret
          exact ⟨ret_bool Hf.out.symm, (Below.refl _ _).alloc (Nat.le_refl _) _⟩
    · have e1 : (t == 0) = false := by simpa using ht0
      have hf := may_no (b := (0 : Int)) (t := t) (l := L.map en) (n := n) (by simp [Hll.out]) (by omega)
      have Hf := Lib.hid hf
      clear hf
      go_enter Tryz.func102, Tryz.ntmps102
      go_wp2_with fail
      all_goals
        go_ret
        exact ⟨ret_bool Hf.out.symm, (Below.refl _ _).alloc (Nat.le_refl _) _⟩
  · have e1 : (b == 0) = false := by simpa using hb0
    by_cases h4 : 1 ≤ b
    · by_cases h3 : b ≤ 1099511627776
      · by_cases h2 : 1 ≤ t
        · by_cases h1 : t ≤ 1099511627776
          · by_cases hl : (n : Int) ≤ 4096
            · have hf := may_yes (b := b) (t := t) (l := L.map en) (n := n) (by simp [Hll.out]) (by omega)
              rw [hf]
              have Hrt := Lib.hid (fun ob => hrt b t (w.alloc ob) (hr.alloc ob))
              clear hf
              go_enter Tryz.func102, Tryz.ntmps102
              go_wp2_with fail
              all_goals
                refine (Hrt.out _).mono ?_
                rintro e w2 ⟨rfl, hb2⟩
                go_wp2_with fail
                go_ret
                exact ⟨rfl, ((Below.refl _ _).alloc (Nat.le_refl _) _).trans (hb2.mono (by simp))⟩
            · have hld : decide ((n : Int) ≤ 4096) = false := decide_eq_false hl
              have hf := may_no (b := b) (t := t) (l := L.map en) (n := n) (by simp [Hll.out]) (by omega)
              have Hf := Lib.hid hf
              clear hf
              go_enter Tryz.func102, Tryz.ntmps102
              go_wp2_with fail
              all_goals
                go_ret
                exact ⟨ret_bool Hf.out.symm, (Below.refl _ _).alloc (Nat.le_refl _) _⟩
          · have d1 : decide (t ≤ 1099511627776) = false := decide_eq_false h1
            have hf := may_no (b := b) (t := t) (l := L.map en) (n := n) (by simp [Hll.out]) (by omega)
            have Hf := Lib.hid hf
            clear hf
            go_enter Tryz.func102, Tryz.ntmps102
            go_wp2_with fail
            all_goals
              go_ret
              exact ⟨ret_bool Hf.out.symm, (Below.refl _ _).alloc (Nat.le_refl _) _⟩
        · have d2 : decide (1 ≤ t) = false := decide_eq_false h2
          have hf := may_no (b := b) (t := t) (l := L.map en) (n := n) (by simp [Hll.out]) (by omega)
          have Hf := Lib.hid hf
          clear hf
          go_enter Tryz.func102, Tryz.ntmps102
          go_wp2_with fail
          all_goals
            go_ret
            exact ⟨ret_bool Hf.out.symm, (Below.refl _ _).alloc (Nat.le_refl _) _⟩
      · have d3 : decide (b ≤ 1099511627776) = false := decide_eq_false h3
        have hf := may_no (b := b) (t := t) (l := L.map en) (n := n) (by simp [Hll.out]) (by omega)
        have Hf := Lib.hid hf
        clear hf
        go_enter Tryz.func102, Tryz.ntmps102
        go_wp2_with fail
        all_goals
          go_ret
          exact ⟨ret_bool Hf.out.symm, (Below.refl _ _).alloc (Nat.le_refl _) _⟩
    · have d4 : decide (1 ≤ b) = false := decide_eq_false h4
      have hf := may_no (b := b) (t := t) (l := L.map en) (n := n) (by simp [Hll.out]) (by omega)
      have Hf := Lib.hid hf
      clear hf
      go_enter Tryz.func102, Tryz.ntmps102
      go_wp2_with fail
      all_goals
        go_ret
        exact ⟨ret_bool Hf.out.symm, (Below.refl _ _).alloc (Nat.le_refl _) _⟩
set_option maxHeartbeats 1600000 in
theorem mayR_any (b t : Int) (A : Option Addr) (n c : Nat) (L : List Er) (w : World) {ok : Nat → Prop} (hr : Rd w ok 4 A n (flat ecell L)) (hw : Wel L) (hn : n ≤ 1000000) :
    Calls Tryz.prog 77 #[.agg #[.int .i64 b, .int .i64 t, .slice A n c]] w (BoolPost w (lmay b t (L.map en))) := by
  have Hll := Lib.hid (hr.flen ecell_len (by omega))
  have hrt := fun ix tm W (h : Rd W ok 4 A n (flat ecell L)) => behind_any ix tm A n c L W h hw hn
  clear hw
  by_cases h4 : b < 0
  · have hf := may_no (b := b) (t := t) (l := L.map en) (n := n) (by simp [Hll.out]) (by omega)
    have Hf := Lib.hid hf
    clear hf
    go_enter Tryz.func77, Tryz.ntmps77
    go_wp2_with fail
    all_goals
      go_ret
      exact ⟨ret_bool Hf.out.symm, (Below.refl _ _).alloc (Nat.le_refl _) _⟩
  · have d4 : decide (b < 0) = false := decide_eq_false h4
    by_cases h3 : 1099511627776 < b
    · have hf := may_no (b := b) (t := t) (l := L.map en) (n := n) (by simp [Hll.out]) (by omega)
      have Hf := Lib.hid hf
      clear hf
      go_enter Tryz.func77, Tryz.ntmps77
      go_wp2_with fail
      all_goals
        go_ret
        exact ⟨ret_bool Hf.out.symm, (Below.refl _ _).alloc (Nat.le_refl _) _⟩
    · have d3 : decide (1099511627776 < b) = false := decide_eq_false h3
      by_cases h2 : t < 0
      · have hf := may_no (b := b) (t := t) (l := L.map en) (n := n) (by simp [Hll.out]) (by omega)
        have Hf := Lib.hid hf
        clear hf
        go_enter Tryz.func77, Tryz.ntmps77
        go_wp2_with fail
        all_goals
          go_ret
          exact ⟨ret_bool Hf.out.symm, (Below.refl _ _).alloc (Nat.le_refl _) _⟩
      · have d2 : decide (t < 0) = false := decide_eq_false h2
        by_cases h1 : 1099511627776 < t
        · have hf := may_no (b := b) (t := t) (l := L.map en) (n := n) (by simp [Hll.out]) (by omega)
          have Hf := Lib.hid hf
          clear hf
          go_enter Tryz.func77, Tryz.ntmps77
          go_wp2_with fail
          all_goals
            go_ret
            exact ⟨ret_bool Hf.out.symm, (Below.refl _ _).alloc (Nat.le_refl _) _⟩
        · have d1 : decide (1099511627776 < t) = false := decide_eq_false h1
          by_cases hb0 : b = 0
          · subst hb0
            by_cases ht0 : t = 0
            · subst ht0
              by_cases hl : 4096 < (n : Int)
              · have hf := may_no (b := (0 : Int)) (t := (0 : Int)) (l := L.map en) (n := n) (by simp [Hll.out]) (by omega)
                have Hf := Lib.hid hf
                clear hf
                go_enter Tryz.func77, Tryz.ntmps77
                go_wp2_with fail
                all_goals
                  go_ret
                  exact ⟨ret_bool Hf.out.symm, (Below.refl _ _).alloc (Nat.le_refl _) _⟩
              · have hld : decide (4096 < (n : Int)) = false := decide_eq_false hl
                have hf := may_yes (b := (0 : Int)) (t := (0 : Int)) (l := L.map en) (n := n) (by simp [Hll.out]) (by omega)
                rw [hf]
                have Hrt := Lib.hid (fun ob => hrt (0 : Int) (0 : Int) (w.alloc ob) (hr.alloc ob))
                clear hf
                go_enter Tryz.func77, Tryz.ntmps77
                go_wp2_with fail
                all_goals
                  refine (Hrt.out _).mono ?_
                  rintro e w2 ⟨rfl, hb2⟩
                  go_wp2_with fail
                  go_ret
                  exact ⟨rfl, ((Below.refl _ _).alloc (Nat.le_refl _) _).trans (hb2.mono (by simp))⟩
            · have e1 : (t == 0) = false := by simpa using ht0
              have hf := may_no (b := (0 : Int)) (t := t) (l := L.map en) (n := n) (by simp [Hll.out]) (by omega)
              have Hf := Lib.hid hf
              clear hf
              go_enter Tryz.func77, Tryz.ntmps77
              go_wp2_with fail
              all_goals
                go_ret
                exact ⟨ret_bool Hf.out.symm, (Below.refl _ _).alloc (Nat.le_refl _) _⟩
          · have e1 : (b == 0) = false := by simpa using hb0
            by_cases ht0 : t = 0
            · subst ht0
              have hf := may_no (b := b) (t := (0 : Int)) (l := L.map en) (n := n) (by simp [Hll.out]) (by omega)
              have Hf := Lib.hid hf
              clear hf
              go_enter Tryz.func77, Tryz.ntmps77
              go_wp2_with fail
              all_goals
                go_ret
                exact ⟨ret_bool Hf.out.symm, (Below.refl _ _).alloc (Nat.le_refl _) _⟩
            · have e2 : (t == 0) = false := by simpa using ht0
              by_cases hl : 4096 < (n : Int)
              · have hf := may_no (b := b) (t := t) (l := L.map en) (n := n) (by simp [Hll.out]) (by omega)
                have Hf := Lib.hid hf
                clear hf
                go_enter Tryz.func77, Tryz.ntmps77
                go_wp2_with fail
                all_goals
                  go_ret
                  exact ⟨ret_bool Hf.out.symm, (Below.refl _ _).alloc (Nat.le_refl _) _⟩
              · have hld : decide (4096 < (n : Int)) = false := decide_eq_false hl
                have hf := may_yes (b := b) (t := t) (l := L.map en) (n := n) (by simp [Hll.out]) (by omega)
                rw [hf]
                have Hrt := Lib.hid (fun ob => hrt b t (w.alloc ob) (hr.alloc ob))
                clear hf
                go_enter Tryz.func77, Tryz.ntmps77
                go_wp2_with fail
                all_goals
                  refine (Hrt.out _).mono ?_
                  rintro e w2 ⟨rfl, hb2⟩
                  go_wp2_with fail
                  go_ret
                  exact ⟨rfl, ((Below.refl _ _).alloc (Nat.le_refl _) _).trans (hb2.mono (by simp))⟩
def TwoInt (W : World) (x y : Int) (e : Ending) (w' : World) : Prop := e = .returned (.tuple #[.int .i64 x, .int .i64 y]) ∧ Below W.heap.size W w'
theorem last_any (b t : Int) (A : Option Addr) (n c : Nat) (L : List Er) (w : World) {ok : Nat → Prop} (hr : Rd w ok 4 A n (flat ecell L)) (hn : n ≤ 1000000) :
    Calls Tryz.prog 123 #[.agg #[.int .i64 b, .int .i64 t, .slice A n c]] w (TwoInt w (lstA b (L.map en)) (lstB t (L.map en))) := by
  have hll := hr.flen ecell_len (by omega)
  by_cases h0 : n = 0
  · subst h0
    obtain rfl : L = [] := List.eq_nil_of_length_eq_zero hll
    clear hll hr
    go_enter Tryz.func123, Tryz.ntmps123
    go_wp2_with fail
    go_quiet (fail)
    go_wp2_with fail
    go_ret2
    exact ⟨rfl, below_drewN ((Below.refl _ _).alloc (Nat.le_refl _) _) _⟩
  · obtain ⟨m, rfl⟩ : ∃ m, n = m + 1 := ⟨n - 1, by omega⟩
    obtain ⟨bk, o, x, rfl, _, hbl, hx, c0, c1, c2, c3⟩ := er_cells hr (j := m) (by omega)
    obtain ⟨e, he, ha, hb⟩ := lstA_len (b := b) (l := L.map en) (by simp; omega)
    have hex : e = en x := by
      rw [List.getElem?_map, List.length_map, hll, Nat.add_sub_cancel, hx] at he
      exact (Option.some.inj he).symm
    rw [ha, hb t, hex]
    have hA : (en x).a = x.a := rfl
    have hB : (en x).b = x.b := rfl
    rw [hA, hB]
    have hmI : (0 : Int) < (m : Int) + 1 := by omega
    have hm0 : (0 : Int) ≤ (m : Int) := by omega
    have hml : (m : Int) < (m : Int) + 1 := by omega
    have hwm : IntKind.i64.wrap (m : Int) = (m : Int) := by rw [IntKind.wrap_i64]; omega
    have a0 : ∀ ob, (w.alloc ob).cell? ⟨bk, o + m * 4, none⟩ = some (.int .i64 x.a) := fun ob => (((Below.refl w.heap.size w).alloc (Nat.le_refl _) ob).cell (p := ⟨bk, o + m * 4, none⟩) hbl).trans c0
    have a1 : ∀ ob, (w.alloc ob).cell? ⟨bk, o + m * 4 + 1, none⟩ = some (.int .i64 x.b) := fun ob => (((Below.refl w.heap.size w).alloc (Nat.le_refl _) ob).cell (p := ⟨bk, o + m * 4 + 1, none⟩) hbl).trans c1
    clear he ha hb hex hr hll hx
    go_enter Tryz.func123, Tryz.ntmps123
    go_wp2_with fail
    go_quiet (fail)
    go_wp2_with fail
    go_ret2
    exact ⟨rfl, below_drewN ((Below.refl _ _).alloc (Nat.le_refl _) _) _⟩
end Go.Proofs.YtlecglmiigdjlaaGreatDoor
namespace Go.Proofs.YtlecglmiigdjlaaGreatDoor
open Go.RowKit
set_option maxRecDepth 100000
set_option linter.unusedVariables false
set_option linter.unusedSimpArgs false
set_option maxHeartbeats 800000 in
theorem lastR_any (b t : Int) (A : Option Addr) (n c : Nat) (L : List Er) (w : World) {ok : Nat → Prop} (hr : Rd w ok 4 A n (flat ecell L)) (hw : Wel L) (hn : n ≤ 1000000) :
    Calls Tryz.prog 76 #[.agg #[.int .i64 b, .int .i64 t, .slice A n c]] w (TwoInt w (if lmay b t (L.map en) then lstA b (L.map en) else 0) (if lmay b t (L.map en) then lstB t (L.map en) else 0)) := by
  have hll := hr.flen ecell_len (by omega)
  have hm := fun ob => mayR_any b t A n c L (w.alloc ob) (hr.alloc ob) hw hn
  generalize lmay b t (L.map en) = q at hm
  have Hm := Lib.hid hm
  have Bb := Lib.hid (Bx.new w #[.int .i64 b, .int .i64 t, .slice A n c] 48 rfl)
  clear hm hw
  cases q
  · clear hr
    go_enter Tryz.func76, Tryz.ntmps76
    go_wp2_with fail
    refine (Hm.out _).mono ?_
    rintro e w2 ⟨rfl, hb2⟩
    go_wp2_with fail
    go_ret2
    exact ⟨rfl, ((Below.refl _ _).alloc (Nat.le_refl _) _).trans (hb2.mono (by simp))⟩
  · by_cases h0 : n = 0
    · subst h0
      obtain rfl : L = [] := List.eq_nil_of_length_eq_zero hll
      clear hll hr
      go_enter Tryz.func76, Tryz.ntmps76
      go_wp2_with fail
      refine (Hm.out _).mono ?_
      rintro e w2 ⟨rfl, hb2⟩
      obtain ⟨k0, k1, k2, -⟩ := (Bb.out.below hb2).c3
      go_wp2_with fail
      go_quiet (fail)
      go_wp2_with fail
      go_ret2
      exact ⟨rfl, below_drewN (((Below.refl _ _).alloc (Nat.le_refl _) _).trans (hb2.mono (by simp))) _⟩
    · obtain ⟨m, rfl⟩ : ∃ m, n = m + 1 := ⟨n - 1, by omega⟩
      obtain ⟨bk, o, x, rfl, _, hbl, hx, c0, c1, c2, c3⟩ := er_cells hr (j := m) (by omega)
      obtain ⟨e, he, ha, hb⟩ := lstA_len (b := b) (l := L.map en) (by simp; omega)
      have hex : e = en x := by
        rw [List.getElem?_map, List.length_map, hll, Nat.add_sub_cancel, hx] at he
        exact (Option.some.inj he).symm
      rw [ha, hb t, hex]
      have hA : (en x).a = x.a := rfl
      have hB : (en x).b = x.b := rfl
      rw [hA, hB]
      have hmI : (0 : Int) < (m : Int) + 1 := by omega
      have hm0 : (0 : Int) ≤ (m : Int) := by omega
      have hml : (m : Int) < (m : Int) + 1 := by omega
      have hwm : IntKind.i64.wrap (m : Int) = (m : Int) := by rw [IntKind.wrap_i64]; omega
      have hne : ((m : Int) + 1 == 0) = false := by simp; omega
      have a0 : w.cell? ⟨bk, o + m * 4, none⟩ = some (.int .i64 x.a) := c0
      have a1 : w.cell? ⟨bk, o + m * 4 + 1, none⟩ = some (.int .i64 x.b) := c1
      have C := Lib.hid (And.intro a0 a1)
      clear he ha hb hex hr hll hx c0 c1 c2 c3 a0 a1
      go_enter Tryz.func76, Tryz.ntmps76
      go_wp2_with fail
      refine (Hm.out _).mono ?_
      rintro e w2 ⟨rfl, hb2⟩
      obtain ⟨k0, k1, k2, -⟩ := (Bb.out.below hb2).c3
      have hb3 := ((Below.refl w.heap.size w).alloc (Nat.le_refl _) (.cells #[.int .i64 b, .int .i64 t, .slice (some ⟨bk, o, none⟩) (m + 1) c] 48)).trans (hb2.mono (by simp))
      have a0 : w2.cell? ⟨bk, o + m * 4, none⟩ = some (.int .i64 x.a) := (hb3.cell (p := ⟨bk, o + m * 4, none⟩) hbl).trans C.out.1
      have a1 : w2.cell? ⟨bk, o + m * 4 + 1, none⟩ = some (.int .i64 x.b) := (hb3.cell (p := ⟨bk, o + m * 4 + 1, none⟩) hbl).trans C.out.2
      clear hb2
      go_wp2_with fail
      go_quiet (fail)
      go_wp2_with fail
      go_ret2
      exact ⟨rfl, below_drewN hb3 _⟩
end Go.Proofs.YtlecglmiigdjlaaGreatDoor
namespace Go.Proofs.YtlecglmiigdjlaaGreatDoor
set_option linter.unusedVariables false
set_option linter.unusedSimpArgs false
theorem rgt_at {ix : Int} {l : List En} : ∀ {tm : Int} {k : Nat}, rgt ix tm k l = true → ∀ (i : Nat) (e : En), l[i]? = some e → e.a = ix + k + i + 1 ∧ 1 ≤ e.a ∧ e.a ≤ 1099511627776 ∧ 1 ≤ e.b ∧ e.b ≤ 1099511627776 ∧ e.d.length ≤ 4096 := by
  induction l with
  | nil => intro tm k h i e hi; simp at hi
  | cons x l ih =>
    intro tm k h i e hi
    rw [rgt, Bool.and_eq_true] at h
    obtain ⟨h1, h2⟩ := h
    rw [okE_iff] at h1
    cases i with
    | zero =>
      simp at hi
      subst hi
      refine ⟨?_, h1.1, h1.2.2.1, h1.2.2.2.2.1, h1.2.2.2.2.2.1, h1.2.2.2.2.2.2.2.2⟩
      have := h1.2.1
      simp
      omega
    | succ i =>
      have := ih h2 i e (by simpa using hi)
      refine ⟨?_, this.2⟩
      have := this.1
      push_cast at this ⊢
      omega
theorem lmay_iff {b t : Int} {l : List En} : lmay b t l = true ↔ ((b = 0 ∧ t = 0) ∨ (1 ≤ b ∧ b ≤ 1099511627776 ∧ 1 ≤ t ∧ t ≤ 1099511627776)) ∧ l.length ≤ 4096 ∧ rgt b t 0 l = true := by
  unfold lmay
  simp only [Bool.and_eq_true, Bool.or_eq_true, decide_eq_true_eq, and_assoc]
theorem lmay_at {b t : Int} {l : List En} (h : lmay b t l = true) {i : Nat} {e : En} (hi : l[i]? = some e) : e.a = b + i + 1 ∧ 1 ≤ e.a ∧ e.a ≤ 1099511627776 ∧ 1 ≤ e.b ∧ e.b ≤ 1099511627776 ∧ e.d.length ≤ 4096 := by
  have := rgt_at (lmay_iff.1 h).2.2 i e hi
  simpa using this
theorem lmay_last {b t : Int} {l : List En} (h : lmay b t l = true) : lstA b l = b + l.length := by
  by_cases h0 : l.length = 0
  · rw [List.eq_nil_of_length_eq_zero h0]
    simp [lstA]
  · obtain ⟨e, he, ha, _⟩ := lstA_len (b := b) (l := l) (by omega)
    rw [ha, (lmay_at h he).1]
    omega
/-- The term of an index, or an error's number. -/
def termL (b t : Int) (l : List En) (ix : Int) : Int × Int := if lstA b l < ix ∨ ix < 0 then (8, 0) else if ix < b then (22, 0) else if ix = b then (0, t) else (0, (l[(ix - b - 1).toNat]?.map (·.b)).getD 0)
end Go.Proofs.YtlecglmiigdjlaaGreatDoor
namespace Go.Proofs.YtlecglmiigdjlaaGreatDoor
open Go.RowKit
set_option maxRecDepth 100000
set_option linter.unusedVariables false
set_option linter.unusedSimpArgs false
def errC (k : Int) : Value := if k = 0 then .nilIface else .iface 69 (.int .i64 k)
def TermPost (W : World) (r : Int × Int) (e : Ending) (w' : World) : Prop := e = .returned (.tuple #[.int .i64 r.2, errC r.1]) ∧ Below W.heap.size W w'
set_option maxHeartbeats 1600000 in
theorem term_any (b t ix : Int) (A : Option Addr) (n c : Nat) (L : List Er) (w : World) {ok : Nat → Prop} (hr : Rd w ok 4 A n (flat ecell L)) (hm : lmay b t (L.map en) = true) (hn : n ≤ 1000000) :
    Calls Tryz.prog 103 #[.agg #[.int .i64 b, .int .i64 t, .slice A n c], .int .i64 ix] w (TermPost w (termL b t (L.map en) ix)) := by
  have hll := hr.flen ecell_len (by omega)
  have hl := fun ob => last_any b t A n c L (w.alloc ob) (hr.alloc ob) hn
  have hz := lmay_last hm
  have hbb := (lmay_iff.1 hm).1
  rw [List.length_map, hll] at hz
  obtain ⟨R, hR⟩ : ∃ R, termL b t (L.map en) ix = R := ⟨_, rfl⟩
  rw [hR]
  unfold termL at hR
  generalize lstB t (L.map en) = y at hl
  generalize lstA b (L.map en) = z at hl hz hR
  have Bb := Lib.hid (Bx.new w #[.int .i64 b, .int .i64 t, .slice A n c] 31 rfl)
  have Hl := Lib.hid hl
  have Hz := Lib.hid hz
  have Hr := Lib.hid hr
  have Hm := Lib.hid hm
  clear hl hz hr hm
  by_cases h1 : z < ix
  · rw [if_pos (.inl h1)] at hR
    have HR := Lib.hid hR
    clear hR
    go_enter Tryz.func103, Tryz.ntmps103
    go_wp2_with fail
    refine (Hl.out _).mono ?_
    rintro e w2 ⟨rfl, hb2⟩
    obtain ⟨k0, k1, k2, -⟩ := (Bb.out.below hb2).c3
    have hb3 := ((Below.refl w.heap.size w).alloc (Nat.le_refl _) (.cells #[.int .i64 b, .int .i64 t, .slice A n c] 31)).trans (hb2.mono (by simp))
    clear hb2
    go_wp2_with fail
    go_ret2
    exact ⟨by rw [← HR.out]; rfl, hb3⟩
  · have h1d : decide (z < ix) = false := decide_eq_false h1
    by_cases h2 : ix < 0
    · rw [if_pos (.inr h2)] at hR
      have HR := Lib.hid hR
      clear hR
      go_enter Tryz.func103, Tryz.ntmps103
      go_wp2_with fail
      refine (Hl.out _).mono ?_
      rintro e w2 ⟨rfl, hb2⟩
      obtain ⟨k0, k1, k2, -⟩ := (Bb.out.below hb2).c3
      have hb3 := ((Below.refl w.heap.size w).alloc (Nat.le_refl _) (.cells #[.int .i64 b, .int .i64 t, .slice A n c] 31)).trans (hb2.mono (by simp))
      clear hb2
      go_wp2_with fail
      go_ret2
      exact ⟨by rw [← HR.out]; rfl, hb3⟩
    · have h2d : decide (ix < 0) = false := decide_eq_false h2
      rw [if_neg (by omega)] at hR
      by_cases h3 : ix < b
      · rw [if_pos h3] at hR
        have HR := Lib.hid hR
        clear hR
        go_enter Tryz.func103, Tryz.ntmps103
        go_wp2_with fail
        refine (Hl.out _).mono ?_
        rintro e w2 ⟨rfl, hb2⟩
        obtain ⟨k0, k1, k2, -⟩ := (Bb.out.below hb2).c3
        have hb3 := ((Below.refl w.heap.size w).alloc (Nat.le_refl _) (.cells #[.int .i64 b, .int .i64 t, .slice A n c] 31)).trans (hb2.mono (by simp))
        clear hb2
        go_wp2_with fail
        go_ret2
        exact ⟨by rw [← HR.out]; rfl, hb3⟩
      · have h3d : decide (ix < b) = false := decide_eq_false h3
        rw [if_neg h3] at hR
        by_cases h4 : ix = b
        · rw [if_pos h4] at hR
          subst h4
          have HR := Lib.hid hR
          clear hR
          go_enter Tryz.func103, Tryz.ntmps103
          go_wp2_with fail
          refine (Hl.out _).mono ?_
          rintro e w2 ⟨rfl, hb2⟩
          obtain ⟨k0, k1, k2, -⟩ := (Bb.out.below hb2).c3
          have hb3 := ((Below.refl w.heap.size w).alloc (Nat.le_refl _) (.cells #[.int .i64 ix, .int .i64 t, .slice A n c] 31)).trans (hb2.mono (by simp))
          clear hb2
          go_wp2_with fail
          go_ret2
          exact ⟨by rw [← HR.out]; rfl, hb3⟩
        · have h4d : (ix == b) = false := by simpa using h4
          rw [if_neg h4] at hR
          obtain ⟨m, hm1⟩ : ∃ m : Nat, ix - b - 1 = (m : Int) := ⟨(ix - b - 1).toNat, by omega⟩
          have hmn : m < n := by have := Hz.out; omega
          have w1 : IntKind.i64.wrap (ix - b) = ix - b := by rw [IntKind.wrap_i64]; have := Hz.out; omega
          have w2 : IntKind.i64.wrap (ix - b - 1) = (m : Int) := by rw [IntKind.wrap_i64]; have := Hz.out; omega
          obtain ⟨bk, o, x, rfl, _, hbl, hx, c0, c1, c2, c3⟩ := er_cells Hr.out hmn
          have htn : (ix - b - 1).toNat = m := by omega
          rw [htn, List.getElem?_map, hx] at hR
          have hmI : (m : Int) < n := by omega
          have hm0 : (0 : Int) ≤ m := by omega
          have HR := Lib.hid hR
          have C1 := Lib.hid c1
          clear hR hm1 htn c0 c1 c2 c3 hx
          go_enter Tryz.func103, Tryz.ntmps103
          go_wp2_with fail
          refine (Hl.out _).mono ?_
          rintro e w2 ⟨rfl, hb2⟩
          obtain ⟨k0, k1, k2, -⟩ := (Bb.out.below hb2).c3
          have hb3 := ((Below.refl w.heap.size w).alloc (Nat.le_refl _) (.cells #[.int .i64 b, .int .i64 t, .slice (some ⟨bk, o, none⟩) n c] 31)).trans (hb2.mono (by simp))
          clear hb2
          have k3 : w2.cell? ⟨bk, o + m * 4 + 1, none⟩ = some (.int .i64 x.b) := (hb3.cell (p := ⟨bk, o + m * 4 + 1, none⟩) hbl).trans C1.out
          go_wp2_with fail
          go_ret2
          exact ⟨by rw [← HR.out]; rfl, hb3⟩
theorem Last_any (b t : Int) (A : Option Addr) (n c : Nat) (L : List Er) (w : World) {ok : Nat → Prop} (hr : Rd w ok 4 A n (flat ecell L)) (hw : Wel L) (hm : lmay b t (L.map en) = true) (hn : n ≤ 1000000) :
    Calls Tryz.prog 118 #[.agg #[.int .i64 b, .int .i64 t, .slice A n c]] w (TwoInt w (lstA b (L.map en)) (lstB t (L.map en))) := by
  have hmm := fun ob => may_any b t A n c L (w.alloc ob) (hr.alloc ob) hw hn
  have hl := fun W (hb : Below w.heap.size w W) => last_any b t A n c L W (hr.below hb) hn
  rw [hm] at hmm
  generalize lstA b (L.map en) = x at hl
  generalize lstB t (L.map en) = y at hl
  have Bb := Lib.hid (Bx.new w #[.int .i64 b, .int .i64 t, .slice A n c] 31 rfl)
  have Hmm := Lib.hid hmm
  have Hl := Lib.hid hl
  clear hmm hl hr hw hm
  go_enter Tryz.func118, Tryz.ntmps118
  go_wp2_with fail
  refine (Hmm.out _).mono ?_
  rintro e w2 ⟨rfl, hb2⟩
  obtain ⟨k0, k1, k2, -⟩ := (Bb.out.below hb2).c3
  have hb3 := ((Below.refl w.heap.size w).alloc (Nat.le_refl _) (.cells #[.int .i64 b, .int .i64 t, .slice A n c] 31)).trans (hb2.mono (by simp))
  clear hb2
  go_wp2_with fail
  refine (Hl.out _ hb3).mono ?_
  rintro e w3 ⟨rfl, hb4⟩
  go_wp2_with fail
  go_ret2
  exact ⟨rfl, hb3.trans (hb4.mono hb3.size)⟩
end Go.Proofs.YtlecglmiigdjlaaGreatDoor
