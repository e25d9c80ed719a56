/- Walk of tollbarref09.Behind. (Printed by mkright.py.) -/
import Derived.Test.YtefjejlpbfbpcaaDoorRows
import Derived.Test.YtefjejlpbfbpcaaDoorLogs
import Derived.Test.YtefjejlpbfbpcaaDoorRight
import Derived.RegionTactic
import Derived.Deep.LoopGhost
import Derived.Deep.DeepCutAuto
import Derived.BigQuiet
namespace Go.Proofs.YtefjejlpbfbpcaaDoor
open Go.RowKit
set_option maxRecDepth 100000
set_option linter.unusedVariables false
set_option linter.unusedSimpArgs false
set_option maxHeartbeats 4000000 in
theorem behind_any (ix tm : Int) (A : Option Addr) (n c : Nat) (L : List Er) (w : World) {ok : Nat → Prop} (hr : Rd w ok 4 A n (flat ecell L)) (hw : Wel L) (hn : n ≤ 1000000) :
    Calls Tryd.prog 43 #[.int .i64 ix, .int .i64 tm, .slice A n c] w (BoolPost w (rgt ix tm 0 (L.map en))) := by
  have hll := hr.flen ecell_len (by omega)
  obtain ⟨Q, hQ⟩ : ∃ Q, rgt ix tm 0 (L.map en) = Q := ⟨_, rfl⟩
  rw [hQ]
  have HQ := Lib.hid hQ
  have Hll := Lib.hid hll
  have Hw := Lib.hid hw
  clear hQ hll hw
  go_enter Tryd.func43, Tryd.ntmps43
  go_wp2_with fail
  go_loopg [1, 7, 8] n (fun m s1 s7 s8 wr => ∃ (j : Nat) (tj : Int), m = n - j ∧ j ≤ n ∧ s7 = .int .i64 j ∧ s1 = .int .i64 tj ∧ rgt ix tj j ((L.map en).drop j) = Q ∧ Below w.heap.size w wr)
  case atStart => exact ⟨0, tm, by omega, by omega, rfl, rfl, HQ.out, Below.refl _ _⟩
  case round =>
    obtain ⟨j, tj, hm, hj, rfl, rfl, hq, hb⟩ := hrel
    have Hm := Lib.hid hm
    have Hq := Lib.hid hq
    have Hb := Lib.hid hb
    clear hm hq hb
    by_cases hlt : j < n
    · obtain ⟨b, o, x, rfl, _, hbl, hx, c0, c1, c2, c3⟩ := er_cells (hr.below Hb.out) hlt
      have hjI : (j : Int) < n := by omega
      have hwx := Hw.out x (List.mem_of_getElem? hx)
      have hs := rgt_step (ix := ix) (tm := tj) (l := L.map en) (i := j) (e := en x) (by rw [List.getElem?_map, hx]; rfl)
      rw [Hq.out] at hs
      have Hs := Lib.hid hs
      have hxa := hwx.1.1
      have hxn := hwx.2
      have Hxn := Lib.hid hxn
      unfold I64 at hxa
      clear hx hs hwx hxn
      by_cases t1 : x.a < 1
      · have hf : Q = false := rgt_no Hs.out fun h => by
          have h' : 1 ≤ x.a ∧ x.a - j - 1 = ix ∧ x.a ≤ 1099511627776 ∧ tj ≤ x.b ∧ 1 ≤ x.b ∧ x.b ≤ 1099511627776 ∧ 0 ≤ x.c ∧ x.c ≤ 2 ∧ x.d.length ≤ 4096 := okE_iff.1 h
          have := Hxn.out
          try simp only [bne_iff_ne, ne_eq] at *
          omega
        have Hf := Lib.hid hf
        clear hf
        go_wp2_with fail
        all_goals
          go_ret
          exact ⟨ret_bool Hf.out.symm, Hb.out.alloc Hb.out.size _⟩
      · have t1d : decide (x.a < 1) = false := decide_eq_false t1
        by_cases t3 : 1099511627776 < x.a
        · have hf : Q = false := rgt_no Hs.out fun h => by
            have h' : 1 ≤ x.a ∧ x.a - j - 1 = ix ∧ x.a ≤ 1099511627776 ∧ tj ≤ x.b ∧ 1 ≤ x.b ∧ x.b ≤ 1099511627776 ∧ 0 ≤ x.c ∧ x.c ≤ 2 ∧ x.d.length ≤ 4096 := okE_iff.1 h
            have := Hxn.out
            try simp only [bne_iff_ne, ne_eq] at *
            omega
          have Hf := Lib.hid hf
          clear hf
          go_wp2_with fail
          all_goals
            go_ret
            exact ⟨ret_bool Hf.out.symm, Hb.out.alloc Hb.out.size _⟩
        · have t3d : decide (1099511627776 < x.a) = false := decide_eq_false t3
          have w1 : IntKind.i64.wrap (x.a - 1) = x.a - 1 := by rw [IntKind.wrap_i64]; omega
          have w2 : IntKind.i64.wrap (x.a - 1 - (j : Int)) = x.a - 1 - j := by rw [IntKind.wrap_i64]; omega
          by_cases t2 : (x.a - 1 - (j : Int) != ix) = true
          · have hf : Q = false := rgt_no Hs.out fun h => by
              have h' : 1 ≤ x.a ∧ x.a - j - 1 = ix ∧ x.a ≤ 1099511627776 ∧ tj ≤ x.b ∧ 1 ≤ x.b ∧ x.b ≤ 1099511627776 ∧ 0 ≤ x.c ∧ x.c ≤ 2 ∧ x.d.length ≤ 4096 := okE_iff.1 h
              have := Hxn.out
              try simp only [bne_iff_ne, ne_eq] at *
              omega
            have Hf := Lib.hid hf
            clear hf
            go_wp2_with fail
            all_goals
              go_ret
              exact ⟨ret_bool Hf.out.symm, Hb.out.alloc Hb.out.size _⟩
          · have t2d : (x.a - 1 - (j : Int) != ix) = false := by simpa using t2
            have t2e : x.a - 1 - (j : Int) = ix := by simpa using t2d
            have T2 := Lib.hid t2e
            clear t2e
            by_cases t4b : x.b < 1
            · have hf : Q = false := rgt_no Hs.out fun h => by
                have h' : 1 ≤ x.a ∧ x.a - j - 1 = ix ∧ x.a ≤ 1099511627776 ∧ tj ≤ x.b ∧ 1 ≤ x.b ∧ x.b ≤ 1099511627776 ∧ 0 ≤ x.c ∧ x.c ≤ 2 ∧ x.d.length ≤ 4096 := okE_iff.1 h
                have := Hxn.out
                try simp only [bne_iff_ne, ne_eq] at *
                omega
              have Hf := Lib.hid hf
              clear hf
              go_wp2_with fail
              all_goals
                go_ret
                exact ⟨ret_bool Hf.out.symm, Hb.out.alloc Hb.out.size _⟩
            · have t4bd : decide (x.b < 1) = false := decide_eq_false t4b
              by_cases t4 : x.b < tj
              · have hf : Q = false := rgt_no Hs.out fun h => by
                  have h' : 1 ≤ x.a ∧ x.a - j - 1 = ix ∧ x.a ≤ 1099511627776 ∧ tj ≤ x.b ∧ 1 ≤ x.b ∧ x.b ≤ 1099511627776 ∧ 0 ≤ x.c ∧ x.c ≤ 2 ∧ x.d.length ≤ 4096 := okE_iff.1 h
                  have := Hxn.out
                  try simp only [bne_iff_ne, ne_eq] at *
                  omega
                have Hf := Lib.hid hf
                clear hf
                go_wp2_with fail
                all_goals
                  go_ret
                  exact ⟨ret_bool Hf.out.symm, Hb.out.alloc Hb.out.size _⟩
              · have t4d : decide (x.b < tj) = false := decide_eq_false t4
                by_cases t5 : 1099511627776 < x.b
                · have hf : Q = false := rgt_no Hs.out fun h => by
                    have h' : 1 ≤ x.a ∧ x.a - j - 1 = ix ∧ x.a ≤ 1099511627776 ∧ tj ≤ x.b ∧ 1 ≤ x.b ∧ x.b ≤ 1099511627776 ∧ 0 ≤ x.c ∧ x.c ≤ 2 ∧ x.d.length ≤ 4096 := okE_iff.1 h
                    have := Hxn.out
                    try simp only [bne_iff_ne, ne_eq] at *
                    omega
                  have Hf := Lib.hid hf
                  clear hf
                  go_wp2_with fail
                  all_goals
                    go_ret
                    exact ⟨ret_bool Hf.out.symm, Hb.out.alloc Hb.out.size _⟩
                · have t5d : decide (1099511627776 < x.b) = false := decide_eq_false t5
                  by_cases t6 : x.c < 0
                  · have hf : Q = false := rgt_no Hs.out fun h => by
                      have h' : 1 ≤ x.a ∧ x.a - j - 1 = ix ∧ x.a ≤ 1099511627776 ∧ tj ≤ x.b ∧ 1 ≤ x.b ∧ x.b ≤ 1099511627776 ∧ 0 ≤ x.c ∧ x.c ≤ 2 ∧ x.d.length ≤ 4096 := okE_iff.1 h
                      have := Hxn.out
                      try simp only [bne_iff_ne, ne_eq] at *
                      omega
                    have Hf := Lib.hid hf
                    clear hf
                    go_wp2_with fail
                    all_goals
                      go_ret
                      exact ⟨ret_bool Hf.out.symm, Hb.out.alloc Hb.out.size _⟩
                  · have t6d : decide (x.c < 0) = false := decide_eq_false t6
                    by_cases t7 : 2 < x.c
                    · have hf : Q = false := rgt_no Hs.out fun h => by
                        have h' : 1 ≤ x.a ∧ x.a - j - 1 = ix ∧ x.a ≤ 1099511627776 ∧ tj ≤ x.b ∧ 1 ≤ x.b ∧ x.b ≤ 1099511627776 ∧ 0 ≤ x.c ∧ x.c ≤ 2 ∧ x.d.length ≤ 4096 := okE_iff.1 h
                        have := Hxn.out
                        try simp only [bne_iff_ne, ne_eq] at *
                        omega
                      have Hf := Lib.hid hf
                      clear hf
                      go_wp2_with fail
                      all_goals
                        go_ret
                        exact ⟨ret_bool Hf.out.symm, Hb.out.alloc Hb.out.size _⟩
                    · have t7d : decide (2 < x.c) = false := decide_eq_false t7
                      by_cases t8 : 4096 < (x.n : Int)
                      · have hf : Q = false := rgt_no Hs.out fun h => by
                          have h' : 1 ≤ x.a ∧ x.a - j - 1 = ix ∧ x.a ≤ 1099511627776 ∧ tj ≤ x.b ∧ 1 ≤ x.b ∧ x.b ≤ 1099511627776 ∧ 0 ≤ x.c ∧ x.c ≤ 2 ∧ x.d.length ≤ 4096 := okE_iff.1 h
                          have := Hxn.out
                          try simp only [bne_iff_ne, ne_eq] at *
                          omega
                        have Hf := Lib.hid hf
                        clear hf
                        go_wp2_with fail
                        all_goals
                          go_ret
                          exact ⟨ret_bool Hf.out.symm, Hb.out.alloc Hb.out.size _⟩
                      · have t8d : decide (4096 < (x.n : Int)) = false := decide_eq_false t8
                        have hok : okE ix tj j (en x) = true := okE_iff.2 (by
                          show 1 ≤ x.a ∧ x.a - j - 1 = ix ∧ x.a ≤ 1099511627776 ∧ tj ≤ x.b ∧ 1 ≤ x.b ∧ x.b ≤ 1099511627776 ∧ 0 ≤ x.c ∧ x.c ≤ 2 ∧ x.d.length ≤ 4096
                          have := Hxn.out
                          have := T2.out
                          omega)
                        have hq2 := rgt_yes Hs.out hok
                        have Hq2 := Lib.hid hq2
                        clear hok hq2
                        go_wp2_with fail
                        all_goals
                          go_roundg (n - (j + 1))
                          case measure => have := Hm.out; omega
                          case rel => exact ⟨j + 1, x.b, rfl, by omega, by go_num, rfl, Hq2.out, Hb.out.alloc Hb.out.size _⟩
    · obtain rfl : j = n := by omega
      have hf : Q = true := by
        rw [← Hq.out, List.drop_of_length_le (by simp [Hll.out])]
        rfl
      have Hf := Lib.hid hf
      clear hf
      go_wp2_with fail
      go_ret
      exact ⟨ret_bool Hf.out.symm, Hb.out⟩
end Go.Proofs.YtefjejlpbfbpcaaDoor
