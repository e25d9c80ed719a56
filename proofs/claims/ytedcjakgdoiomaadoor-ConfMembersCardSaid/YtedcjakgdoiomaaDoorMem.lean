/- Walks: the members with one more, and without one. -/
import Derived.Test.YtedcjakgdoiomaaDoorSearch
import Derived.Test.YtedcjakgdoiomaaDoorInsG
namespace Go.Proofs.YtedcjakgdoiomaaDoor
open Go.RowKit
set_option maxRecDepth 100000
set_option linter.unusedVariables false
set_option linter.unusedSimpArgs false
def errC (k : Int) : Value := if k = 0 then .nilIface else .iface 45 (.int .i64 k)
def ModPost (W : World) (r : Int × List Int) (e : Ending) (w' : World) : Prop :=
  ∃ A c, e = .returned (.tuple #[.slice A r.2.length c, errC r.1]) ∧ w'.ownsRow W.heap.size 3 1 (.slice A r.2.length c) r.2.length (ii r.2) ∧ Below W.heap.size W w'
theorem add_any (A : Option Addr) (n c : Nat) (l : List Int) (z : Int) (w : World) {ok : Nat → Prop} (hr : Rd w ok 1 A n (ii l)) (hn : n ≤ 1000000) :
    Calls Tryd.prog 6 #[.slice A n c, .int .i64 z] w (ModPost w (addOf l z)) := by
  have hs := search_any A n c l z w hr hn
  have hm := may_any A n c l w hr hn
  have hcl := cloneC_any A n c l w hr hn
  have hll := ii_len hr
  by_cases hc : cmay l = true
  · have hp := (cmay_iff.1 hc).2.1
    rw [hc] at hm
    have Hs := Lib.hid hs
    have Hm := Lib.hid hm
    have Hcl := Lib.hid hcl
    have Hp := Lib.hid hp
    clear hs hm hcl hp hr
    by_cases h1 : z < 1
    · have hq : addOf l z = (1, []) := by unfold addOf; rw [if_pos (.inr (.inl h1))]
      have Hq := Lib.hid hq
      clear hq hc
      go_enter Tryd.func6, Tryd.ntmps6
      go_wp2_with fail
      refine Hs.out.mono ?_
      rintro e w1 ⟨k, b, rfl, hk, hkl, rfl⟩
      have Hk := Lib.hid hk
      clear hk
      go_wp2_with fail
      refine Hm.out.mono ?_
      rintro e w1 ⟨rfl, rfl⟩
      go_wp2_with fail
      go_ret2
      rw [Hq.out]
      exact ⟨_, _, rfl, World.ownsRow_nil _ _ _ _, Below.refl _ _⟩
    · have h1d : decide (z < 1) = false := decide_eq_false h1
      by_cases h2 : 64 < z
      · have hq : addOf l z = (1, []) := by unfold addOf; rw [if_pos (.inr (.inr h2))]
        have Hq := Lib.hid hq
        clear hq hc
        go_enter Tryd.func6, Tryd.ntmps6
        go_wp2_with fail
        refine Hs.out.mono ?_
        rintro e w1 ⟨k, b, rfl, hk, hkl, rfl⟩
        have Hk := Lib.hid hk
        clear hk
        go_wp2_with fail
        refine Hm.out.mono ?_
        rintro e w1 ⟨rfl, rfl⟩
        go_wp2_with fail
        go_ret2
        rw [Hq.out]
        exact ⟨_, _, rfl, World.ownsRow_nil _ _ _ _, Below.refl _ _⟩
      · have h2d : decide (64 < z) = false := decide_eq_false h2
        by_cases h3 : z ∈ l
        · have hq : addOf l z = (9, []) := by unfold addOf; rw [if_neg (by rw [hc]; simp; omega), if_pos h3]
          have hd : decide (z ∈ l) = true := decide_eq_true h3
          have Hd := Lib.hid hd
          have Hq := Lib.hid hq
          clear hq hc h3 hd
          go_enter Tryd.func6, Tryd.ntmps6
          go_wp2_with fail
          refine Hs.out.mono ?_
          rintro e w1 ⟨k, b, rfl, hk, hkl, rfl⟩
          obtain ⟨rfl, rfl⟩ := hk Hp.out
          rw [Hd.out]
          go_wp2_with fail
          refine Hm.out.mono ?_
          rintro e w1 ⟨rfl, rfl⟩
          go_wp2_with fail
          go_ret2
          rw [Hq.out]
          exact ⟨_, _, rfl, World.ownsRow_nil _ _ _ _, Below.refl _ _⟩
        · have hd : decide (z ∈ l) = false := decide_eq_false h3
          by_cases h4 : 7 ≤ n
          · have hq : addOf l z = (10, []) := by unfold addOf; rw [if_neg (by rw [hc]; simp; omega), if_neg h3, if_pos (by omega)]
            have h4I : (7 : Int) ≤ n := by omega
            have Hd := Lib.hid hd
            have Hq := Lib.hid hq
            clear hq hc h3 hd
            go_enter Tryd.func6, Tryd.ntmps6
            go_wp2_with fail
            refine Hs.out.mono ?_
            rintro e w1 ⟨k, b, rfl, hk, hkl, rfl⟩
            obtain ⟨rfl, rfl⟩ := hk Hp.out
            rw [Hd.out]
            go_wp2_with fail
            refine Hm.out.mono ?_
            rintro e w1 ⟨rfl, rfl⟩
            go_wp2_with fail
            go_ret2
            rw [Hq.out]
            exact ⟨_, _, rfl, World.ownsRow_nil _ _ _ _, Below.refl _ _⟩
          · have hq : addOf l z = (0, ins z l) := by unfold addOf; rw [if_neg (by rw [hc]; simp; omega), if_neg h3, if_neg (by omega)]
            have h4I : ¬ ((7 : Int) ≤ n) := by omega
            have h4d : decide ((7 : Int) ≤ n) = false := decide_eq_false h4I
            have hlow := low_le z l
            have Hd := Lib.hid hd
            have Hq := Lib.hid hq
            clear hq hc h3 hd h4I
            go_enter Tryd.func6, Tryd.ntmps6
            go_wp2_with fail
            refine Hs.out.mono ?_
            rintro e w1 ⟨k, b, rfl, hk, hkl, rfl⟩
            obtain ⟨hk1, rfl⟩ := hk Hp.out
            rw [Hd.out]
            have Hk1 := Lib.hid hk1
            clear hk1 hk
            go_wp2_with fail
            refine Hm.out.mono ?_
            rintro e w1 ⟨rfl, rfl⟩
            go_wp2_with fail
            refine Hcl.out.mono ?_
            rintro e w1 ⟨A1, c1, rfl, hown1, hb1⟩
            have Ho := Lib.hid hown1
            clear hown1
            go_wp2_with fail
            have hz1 := hb1.size
            have hI := insC_any w.heap.size A1 n c1 k (ii l) z w1.heap.size (w1.alloc (.cells #[.int .i64 z] 3)) (Ho.out.alloc _) (by simp; omega) (Bx.new w1 _ _ (by simp)) (fun b hb => by have := own_lt Ho.out b hb; omega) (by have := Hk1.out; omega) (ii_one l) hn
            refine hI.mono ?_
            rintro e w2 ⟨A2, c2, rfl, hown2, hg2⟩
            clear hI
            go_wp2_with fail
            go_ret2
            have hlen : (ins z l).length = n + 1 := by rw [ins_length, hll]
            have hii : ii (ins z l) = (ii l).take k ++ .int .i64 z :: (ii l).drop k := by rw [Hk1.out]; unfold ins ii; simp only [List.map_append, List.map_cons, List.map_take, List.map_drop]
            rw [Hq.out]
            refine ⟨A2, c2, ?_, ?_, (hb1.alloc hz1 _).grown hg2 (by simp; omega) (fun k hk => (own_lt Ho.out k hk).1)⟩
            · show Ending.returned (.tuple #[.slice A2 (n + 1) c2, _]) = .returned (.tuple #[.slice A2 (ins z l).length c2, _])
              rw [hlen]
              rfl
            · show w2.ownsRow _ _ _ (.slice A2 (ins z l).length c2) (ins z l).length (ii (ins z l))
              rw [hlen, hii]
              exact hown2
  · have hcf : cmay l = false := by simpa using hc
    rw [hcf] at hm
    have hq : addOf l z = (1, []) := by unfold addOf; rw [if_pos (.inl hcf)]
    have Hq := Lib.hid hq
    have Hs := Lib.hid hs
    have Hm := Lib.hid hm
    clear hq hc hcf hs hm hr hcl
    go_enter Tryd.func6, Tryd.ntmps6
    go_wp2_with fail
    refine Hs.out.mono ?_
    rintro e w1 ⟨k, b, rfl, hk, hkl, rfl⟩
    have Hk := Lib.hid hk
    clear hk
    go_wp2_with fail
    refine Hm.out.mono ?_
    rintro e w1 ⟨rfl, rfl⟩
    go_wp2_with fail
    go_ret2
    rw [Hq.out]
    exact ⟨_, _, rfl, World.ownsRow_nil _ _ _ _, Below.refl _ _⟩
theorem rem_any (A : Option Addr) (n c : Nat) (l : List Int) (z : Int) (w : World) {ok : Nat → Prop} (hr : Rd w ok 1 A n (ii l)) (hn : n ≤ 1000000) :
    Calls Tryd.prog 8 #[.slice A n c, .int .i64 z] w (ModPost w (remOf l z)) := by
  have hs := idxC_any A n c l z w hr hn
  have hm := may_any A n c l w hr hn
  have hcl := cloneC_any A n c l w hr hn
  have hll := ii_len hr
  by_cases hc : cmay l = true
  · have hp := (cmay_iff.1 hc).2.1
    rw [hc] at hm
    have Hs := Lib.hid hs
    have Hm := Lib.hid hm
    have Hcl := Lib.hid hcl
    have Hp := Lib.hid hp
    clear hs hm hcl hp hr
    by_cases h3 : z ∈ l
    · by_cases h4 : l.length = 1
      · have hq : remOf l z = (1, []) := by unfold remOf; rw [if_neg (by rw [hc]; simp), if_neg (by simpa using h3), if_pos h4]
        obtain rfl : n = 1 := by omega
        have Hq := Lib.hid hq
        have H3 := Lib.hid h3
        clear hq hc h4 hll h3
        go_enter Tryd.func8, Tryd.ntmps8
        go_wp2_with fail
        refine Hs.out.mono ?_
        rintro e w1 ⟨k, rfl, hk, rfl⟩
        rcases hk with ⟨i, rfl, h1, _⟩ | ⟨rfl, h1⟩
        · have H1 := Lib.hid h1
          have hi0 : ¬ ((i : Int) < 0) := by omega
          clear h1
          go_wp2_with fail
          refine Hm.out.mono ?_
          rintro e w1 ⟨rfl, rfl⟩
          go_wp2_with fail
          go_ret2
          rw [Hq.out]
          exact ⟨_, _, rfl, World.ownsRow_nil _ _ _ _, Below.refl _ _⟩
        · exact absurd H3.out h1
      · have hq : remOf l z = (0, del z l) := by unfold remOf; rw [if_neg (by rw [hc]; simp), if_neg (by simpa using h3), if_neg h4]
        have h4d : ((n : Int) == 1) = false := by simp; omega
        have hlen : (del z l).length = n - 1 := by have := del_length Hp.out h3; omega
        have Hq := Lib.hid hq
        have H3 := Lib.hid h3
        have Hlen := Lib.hid hlen
        clear hq hc h4 h3 hlen
        go_enter Tryd.func8, Tryd.ntmps8
        go_wp2_with fail
        refine Hs.out.mono ?_
        rintro e w1 ⟨k, rfl, hk, rfl⟩
        rcases hk with ⟨i, rfl, h1, _⟩ | ⟨rfl, h1⟩
        · have H1 := Lib.hid h1
          have hi0 : ¬ ((i : Int) < 0) := by omega
          have hin : i < n := by have := (List.getElem?_eq_some_iff.1 h1).1; omega
          have hx1 : IntKind.i64.wrap ((i : Int) + 1) = (i : Int) + 1 := by rw [IntKind.wrap_i64]; omega
          clear h1
          go_wp2_with fail
          refine Hm.out.mono ?_
          rintro e w1 ⟨rfl, rfl⟩
          go_wp2_with fail
          refine Hcl.out.mono ?_
          rintro e w1 ⟨A1, c1, rfl, hown1, hb1⟩
          have Ho := Lib.hid hown1
          clear hown1
          go_wp2_with fail
          refine (delC_any w.heap.size A1 n c1 (ii l) i w1 Ho.out hin (ii_one l) hn).mono ?_
          rintro e w2 ⟨rfl, hown2, hg2⟩
          go_wp2_with fail
          go_ret2
          have hz1 := hb1.size
          have hii : ii (del z l) = (ii l).take i ++ (ii l).drop (i + 1) := by rw [del_at Hp.out H1.out]; unfold ii; simp only [List.map_append, List.map_take, List.map_drop]
          rw [Hq.out]
          refine ⟨A1, c1, ?_, ?_, hb1.grown hg2 (by omega) (fun k hk => (own_lt Ho.out k hk).1)⟩
          · show Ending.returned (.tuple #[.slice A1 (n - 1) c1, _]) = .returned (.tuple #[.slice A1 (del z l).length c1, _])
            rw [Hlen.out]
            rfl
          · show w2.ownsRow _ _ _ (.slice A1 (del z l).length c1) (del z l).length (ii (del z l))
            rw [Hlen.out, hii]
            exact hown2
        · exact absurd H3.out h1
    · have hq : remOf l z = (8, []) := by unfold remOf; rw [if_neg (by rw [hc]; simp), if_pos h3]
      have Hq := Lib.hid hq
      have H3 := Lib.hid h3
      clear hq hc h3 hll
      go_enter Tryd.func8, Tryd.ntmps8
      go_wp2_with fail
      refine Hs.out.mono ?_
      rintro e w1 ⟨k, rfl, hk, rfl⟩
      rcases hk with ⟨i, rfl, h1, _⟩ | ⟨rfl, h1⟩
      · exact absurd (List.mem_of_getElem? h1) H3.out
      · clear h1
        go_wp2_with fail
        refine Hm.out.mono ?_
        rintro e w1 ⟨rfl, rfl⟩
        go_wp2_with fail
        go_ret2
        rw [Hq.out]
        exact ⟨_, _, rfl, World.ownsRow_nil _ _ _ _, Below.refl _ _⟩
  · have hcf : cmay l = false := by simpa using hc
    rw [hcf] at hm
    have hq : remOf l z = (1, []) := by unfold remOf; rw [if_pos hcf]
    have Hq := Lib.hid hq
    have Hs := Lib.hid hs
    have Hm := Lib.hid hm
    clear hq hc hcf hs hm hr hcl hll
    go_enter Tryd.func8, Tryd.ntmps8
    go_wp2_with fail
    refine Hs.out.mono ?_
    rintro e w1 ⟨k, rfl, hk, rfl⟩
    have Hk := Lib.hid hk
    clear hk
    go_wp2_with fail
    refine Hm.out.mono ?_
    rintro e w1 ⟨rfl, rfl⟩
    go_wp2_with fail
    go_ret2
    rw [Hq.out]
    exact ⟨_, _, rfl, World.ownsRow_nil _ _ _ _, Below.refl _ _⟩
end Go.Proofs.YtedcjakgdoiomaaDoor
