/- Walks: the document's Add, Remove. -/
import Derived.Test.YtedcjakgdoiomaaDoorConf2
import Derived.Test.YtedcjakgdoiomaaDoorLow
import Derived.Deep.RegionLaw
namespace Go.Proofs.YtedcjakgdoiomaaDoor
open Go.RowKit
set_option maxRecDepth 100000
set_option linter.unusedVariables false
set_option linter.unusedSimpArgs false
def RefPost (W : World) (r : Int × List Int) (e : Ending) (w' : World) : Prop :=
  ∃ A c, e = .returned (.tuple #[.slice A r.2.length c, .int .i64 r.1]) ∧ Rd w' T 1 A r.2.length (ii r.2) ∧ Below W.heap.size W w'
theorem RefPost.err {W W' : World} {k : Int} (hb : Below W.heap.size W W') : RefPost W (k, []) (.returned (.tuple #[.slice none 0 0, .int .i64 k])) W' := ⟨none, 0, rfl, Rd.none_, hb⟩
/-- A literal behind an append that wrote no elder block. -/
theorem Rd.blit2 {w w' : World} {cs : Array Value} {t : TypeId} {fr : Nat × Nat} (hg : (w.alloc (.cells cs t fr)).grownBy w' none) : Rd w' T 1 (some ⟨w.heap.size, 0, none⟩) cs.size cs.toList :=
  ((Rd.lit rfl).grown hg (fun g h => by cases h)).any
theorem addR_arg (A : Option Addr) (n c : Nat) (l : List Int) (z : Int) (w : World) {ok : Nat → Prop} (hr : Rd w ok 1 A n (ii l)) (hn : n ≤ 1000000) (h : cmay l = false ∨ z < 1 ∨ 64 < z) :
    Calls Tryd.prog 7 #[.slice A n c, .int .i64 z] w (RefPost w (addOf l z)) := by
  have hm := mayR_any A n c l w hr hn
  have hq : addOf l z = (1, []) := by unfold addOf; rw [if_pos h]
  rw [hq]
  generalize hcm : cmay l = q at hm h
  have Hm := Lib.hid hm
  clear hm hq hr
  cases q
  · clear h
    go_enter Tryd.func7, Tryd.ntmps7
    go_wp2_with fail
    refine Hm.out.mono ?_
    rintro e w1 ⟨rfl, hb1⟩
    go_wp2_with fail
    go_ret2
    exact RefPost.err hb1
  · by_cases h1 : z < 1
    · clear h
      go_enter Tryd.func7, Tryd.ntmps7
      go_wp2_with fail
      refine Hm.out.mono ?_
      rintro e w1 ⟨rfl, hb1⟩
      go_wp2_with fail
      go_ret2
      exact RefPost.err hb1
    · have h2 : 64 < z := by rcases h with h | h | h; cases h; exact absurd h h1; exact h
      have h1d : decide (z < 1) = false := decide_eq_false h1
      clear h
      go_enter Tryd.func7, Tryd.ntmps7
      go_wp2_with fail
      refine Hm.out.mono ?_
      rintro e w1 ⟨rfl, hb1⟩
      go_wp2_with fail
      go_ret2
      exact RefPost.err hb1
theorem addR_no (A : Option Addr) (n c : Nat) (l : List Int) (z : Int) (w : World) {ok : Nat → Prop} (hr : Rd w ok 1 A n (ii l)) (hn : n ≤ 1000000) (hc : cmay l = true) (h1 : ¬ z < 1) (h2 : ¬ 64 < z) (h : z ∈ l ∨ (z ∉ l ∧ 6 < (n : Int))) :
    Calls Tryd.prog 7 #[.slice A n c, .int .i64 z] w (RefPost w (addOf l z)) := by
  have hm := mayR_any A n c l w hr hn
  have hin := fun W (hb : Below w.heap.size w W) => in_any A n c l z W (hr.below hb) hn
  rw [hc] at hm
  have h1d : decide (z < 1) = false := decide_eq_false h1
  have h2d : decide (64 < z) = false := decide_eq_false h2
  have hll := ii_len hr
  rcases h with h | ⟨h, h3⟩
  · have hq : addOf l z = (9, []) := by unfold addOf; rw [if_neg (by rw [hc]; simp; omega), if_pos h]
    rw [hq]
    rw [decide_eq_true h] at hin
    have Hm := Lib.hid hm
    have Hin := Lib.hid hin
    clear hm hq hr h hin hc
    go_enter Tryd.func7, Tryd.ntmps7
    go_wp2_with fail
    refine Hm.out.mono ?_
    rintro e w1 ⟨rfl, hb1⟩
    go_wp2_with fail
    refine (Hin.out _ hb1).mono ?_
    rintro e w1 ⟨rfl, rfl⟩
    go_wp2_with fail
    go_ret2
    exact RefPost.err hb1
  · have hq : addOf l z = (10, []) := by unfold addOf; rw [if_neg (by rw [hc]; simp; omega), if_neg h, if_pos (by omega)]
    rw [hq]
    rw [decide_eq_false h] at hin
    have Hm := Lib.hid hm
    have Hin := Lib.hid hin
    clear hm hq hr h hin hc
    go_enter Tryd.func7, Tryd.ntmps7
    go_wp2_with fail
    refine Hm.out.mono ?_
    rintro e w1 ⟨rfl, hb1⟩
    go_wp2_with fail
    refine (Hin.out _ hb1).mono ?_
    rintro e w1 ⟨rfl, rfl⟩
    go_wp2_with fail
    go_ret2
    exact RefPost.err hb1
set_option maxHeartbeats 1600000 in
theorem addR_yes (A : Option Addr) (n c : Nat) (l : List Int) (z : Int) (w : World) {ok : Nat → Prop} (hr : Rd w ok 1 A n (ii l)) (hc : cmay l = true) (h1 : ¬ z < 1) (h2 : ¬ 64 < z) (h : z ∉ l) (h3 : (n : Int) ≤ 6) (hnc : n ≤ c) (hcm : c ≤ maxLen) :
    Calls Tryd.prog 7 #[.slice A n c, .int .i64 z] w (RefPost w (addOf l z)) := by
  have hm := mayR_any A n c l w hr (by omega)
  have hin := fun W (hb : Below w.heap.size w W) => in_any A n c l z W (hr.below hb) (by omega)
  have hll := ii_len hr
  have hp := (cmay_iff.1 hc).2.1
  have hn1 : 0 < n := by have := (cmay_iff.1 hc).2.2.1; omega
  rw [hc] at hm
  rw [decide_eq_false h] at hin
  have h1d : decide (z < 1) = false := decide_eq_false h1
  have h2d : decide (64 < z) = false := decide_eq_false h2
  have h3d : decide (6 < (n : Int)) = false := decide_eq_false (by omega)
  have hq : addOf l z = (0, ins z l) := by unfold addOf; rw [if_neg (by rw [hc]; simp; omega), if_neg h, if_neg (by omega)]
  rw [hq]
  obtain ⟨b, o, rfl, hbk, hlt, _⟩ := hr.plain hn1 (by omega)
  have hc63 : c ≤ 9223372036854775807 := by simpa [maxLen] using hcm
  have hlow := low_le z l
  have Hr := Lib.hid hr
  have Hm := Lib.hid hm
  have Hin := Lib.hid hin
  have Hp := Lib.hid hp
  have Hll := Lib.hid hll
  have Hlow := Lib.hid hlow
  clear hm hin hr h hp hc hq hbk hlow
  go_enter Tryd.func7, Tryd.ntmps7
  go_wp2_with fail
  refine Hm.out.mono ?_
  rintro e w1 ⟨rfl, hb1⟩
  go_wp2_with fail
  refine (Hin.out _ hb1).mono ?_
  rintro e w2 ⟨rfl, rfl⟩
  replace Hr := Lib.hid (Hr.out.below hb1)
  go_wp2_with fail
  go_loopg [7] n (fun m s7 wr => ∃ j : Nat, m = n - j ∧ j ≤ low z l ∧ s7 = .int .i64 j ∧ wr = w1)
  case atStart => exact ⟨0, by omega, by omega, rfl, rfl⟩
  case round =>
    obtain ⟨j, hm, hj, rfl, rfl⟩ := hrel
    have Hmj := Lib.hid hm
    clear hm
    have hjn : j ≤ n := by have := Hlow.out; have := Hll.out; omega
    by_cases hgo : ∃ x, l[j]? = some x ∧ x < z
    · obtain ⟨x, hx, hxz⟩ := hgo
      have hlt2 : j < n := by have := (List.getElem?_eq_some_iff.1 hx).1; have := Hll.out; omega
      obtain ⟨b', o', x', e', _, _, hx', hc'⟩ := ii_cell Hr.out hlt2
      obtain ⟨rfl, rfl⟩ : b = b' ∧ o = o' := by injection e' with e'; injection e' with e1 e2 _; exact ⟨e1, e2⟩
      obtain rfl : x = x' := by rw [hx] at hx'; exact Option.some.inj hx'
      have hnext := low_lt Hp.out hx hxz
      have hjI : (j : Int) < n := by omega
      clear e' hx hx'
      go_wp2_with fail
      go_roundg (n - (j + 1))
      case measure => have := Hmj.out; omega
      case rel => exact ⟨j + 1, rfl, hnext, by go_num, rfl⟩
    · have hje : low z l = j := by
        by_cases hlt2 : j < n
        · have hx := List.getElem?_eq_getElem (l := l) (i := j) (by have := Hll.out; omega)
          have := low_ge hx (fun h => hgo ⟨_, hx, h⟩)
          omega
        · have := Hlow.out
          have := Hll.out
          omega
      have R1 : Rd wr T 1 (some ⟨b, o, none⟩) j (ii (l.take j)) := by
        have := (Hr.out.take hjn).any
        rw [Nat.mul_one] at this
        unfold ii at this ⊢
        rwa [List.map_take]
      have R2 : ∃ A2, (if c = j then (some ⟨b, o, none⟩ : Option Addr) else some ⟨b, o + j, none⟩) = A2 ∧ Rd wr T 1 A2 (n - j) (ii (l.drop j)) := by
        refine ⟨_, rfl, ?_⟩
        have := (Hr.out.sub (l := j) (k := n - j) (m := c) (by omega) (by omega)).any
        simp only [Nat.mul_one, Option.map_some, Addr.add_lit] at this
        rw [List.take_of_length_le (by simp [ii]; have := Hll.out; omega)] at this
        unfold ii at this ⊢
        rw [List.map_drop]
        exact this
      obtain ⟨A2, hA2, R2⟩ := R2
      have R1 := Lib.hid R1
      have R2 := Lib.hid R2
      have hend : ii (ins z l) = ii (l.take j) ++ [.int .i64 z] ++ ii (l.drop j) := by unfold ins; rw [hje]; unfold ii; simp
      have hlen : (ins z l).length = n + 1 := by rw [ins_length, Hll.out]
      have Hend := Lib.hid (And.intro hend hlen)
      clear hend hlen hje
      have hc0 : ¬ c = 0 := by omega
      have hjc : j ≤ c := by omega
      have hjI : (j : Int) ≤ n := by omega
      have hjcI : (j : Int) ≤ c := by omega
      have hall : ¬ j < n ∨ ∃ x, j < n ∧ wr.cell? ⟨b, o + j, none⟩ = some (.int .i64 x) ∧ ¬ x < z := by
        by_cases hlt2 : j < n
        · obtain ⟨b', o', x', e', _, _, hx', hc'⟩ := ii_cell Hr.out hlt2
          obtain ⟨rfl, rfl⟩ : b = b' ∧ o = o' := by injection e' with e'; injection e' with e1 e2 _; exact ⟨e1, e2⟩
          exact .inr ⟨x', hlt2, hc', fun h => hgo ⟨x', hx', h⟩⟩
        · exact .inl hlt2
      clear hgo
      rcases hall with hn2 | ⟨x, hn2, hcx, hxz⟩
      · obtain rfl : j = n := by omega
        have R2' : Rd wr T 1 A2 0 [] := ⟨rfl, fun h => absurd h (by decide)⟩
        have R2' := Lib.hid R2'
        clear R2
        go_wp2_with fail
        go_region_law (first
          | (refine step_append_any (c := c - j) (w := w4) (news := ([] : List Value)) Tryd.underlying22 int_elem rfl (by omega) rfl rfl (by simp [Act.eval, Act.put]) hown4 (by simp [Act.eval, Act.put]) (R2'.out.below b4) (by intro u hu; cases hu) (by omega) b4.size (show _ = j + 1 by omega) rfl ?_; intro A5 c5 w5 hown5 hg5 hat5; have b5 : Below wr.heap.size wr w5 := b4.grown hg5 b4.size (fun k hk => (own_lt hown4 k hk).1))
          | (refine step_append_any (c := 1) (w := w3) (news := [.int .i64 z]) Tryd.underlying22 int_elem rfl (by omega) rfl rfl (by simp [Act.eval, Act.put]) hown3 (by simp [Act.eval, Act.put]) (show Rd w3 T 1 (some ⟨wr.heap.size, 0, none⟩) 1 [.int .i64 z] from Rd.blit2 (w := wr.drew) (cs := #[.int .i64 z]) hg3) (by intro u hu; simp only [List.mem_cons, List.not_mem_nil, or_false] at hu; subst hu; rfl) (by omega) b3.size rfl rfl ?_; intro A4 c4 w4 hown4 hg4 hat4; have b4 : Below wr.heap.size wr w4 := b3.grown hg4 b3.size (fun k hk => (own_lt hown3 k hk).1))
          | (refine step_append_any (c := 1) (w := w3.alloc (.cells #[.int .i64 z] 3)) (news := [.int .i64 z]) Tryd.underlying22 int_elem rfl (by omega) rfl rfl (by simp [Act.eval, Act.put]) (hown3.alloc _) (by simp [Act.eval, Act.put]) (show Rd (w3.alloc (.cells #[.int .i64 z] 3)) T 1 (some ⟨w3.heap.size, 0, none⟩) 1 [.int .i64 z] from (Rd.lit (cs := #[.int .i64 z]) rfl).any) (by intro u hu; simp only [List.mem_cons, List.not_mem_nil, or_false] at hu; subst hu; rfl) (by omega) (Nat.le_trans b3.size (by simp)) rfl rfl ?_; intro A4 c4 w4 hown4 hg4 hat4; have b4 : Below wr.heap.size wr w4 := (b3.alloc b3.size _).grown hg4 (Nat.le_trans b3.size (by simp)) (fun k hk => (own_lt hown3 k hk).1))
          | (refine step_append_any (c := c) (w := wr.drew) (news := ii (l.take j)) Tryd.underlying22 int_elem rfl (by omega) rfl rfl (by simp [Act.eval, Act.put]) (World.ownsRow_nil _ wr.heap.size _ _) (by simp [Act.eval, Act.put]) R1.out.drew (ii_one _) (by omega) (Nat.le_refl _) (Nat.zero_add _) (List.nil_append _) ?_; intro A3 c3 w3 hown3 hg3 hat3; have b3 : Below wr.heap.size wr w3 := ((Below.refl _ _).drew).grown hg3 (Nat.le_refl _) (fun k hk => by cases hk))
          | (refine step_append_any (c := c) (w := wr.drew.alloc _) (news := ii (l.take j)) Tryd.underlying22 int_elem rfl (by omega) rfl rfl (by simp [Act.eval, Act.put]) (World.ownsRow_nil _ wr.heap.size _ _) (by simp [Act.eval, Act.put]) (R1.out.drew.alloc _) (ii_one _) (by omega) (by simp) (Nat.zero_add _) (List.nil_append _) ?_; intro A3 c3 w3 hown3 hg3 hat3; have b3 : Below wr.heap.size wr w3 := (((Below.refl _ _).drew).alloc (Nat.le_refl _) _).grown hg3 (by simp) (fun k hk => by cases hk)))
        all_goals
          go_wp2_with fail
          go_ret2
          refine ⟨A5, c5, ?_, ?_, ?_⟩
          · show Ending.returned (.tuple #[.slice A5 (j + 1) c5, _]) = .returned (.tuple #[.slice A5 (ins z l).length c5, _])
            rw [Hend.out.2]
            rfl
          · show Rd w5 T 1 A5 (ins z l).length (ii (ins z l))
            rw [Hend.out.2, Hend.out.1]
            have := (Rd.of_own hown5).any
            rw [List.append_nil] at this
            rw [List.drop_of_length_le (Nat.le_of_eq Hll.out)]
            show Rd w5 T 1 A5 (j + 1) (_ ++ [])
            rw [List.append_nil]
            exact this
          · exact hb1.trans (b5.mono hb1.size)
      · have hxd : decide (x < z) = false := decide_eq_false hxz
        have hn2I : (j : Int) < n := by omega
        go_wp2_with fail
        go_region_law (first
          | (refine step_append_any (c := c - j) (w := w4) (news := ii (l.drop j)) Tryd.underlying22 int_elem rfl (by omega) rfl rfl (by simp [Act.eval, Act.put]) hown4 (by simp [Act.eval, Act.put]) (R2.out.below b4) (ii_one _) (by omega) b4.size (show _ = n + 1 by omega) rfl ?_; intro A5 c5 w5 hown5 hg5 hat5; have b5 : Below wr.heap.size wr w5 := b4.grown hg5 b4.size (fun k hk => (own_lt hown4 k hk).1))
          | (refine step_append_any (c := 1) (w := w3) (news := [.int .i64 z]) Tryd.underlying22 int_elem rfl (by omega) rfl rfl (by simp [Act.eval, Act.put]) hown3 (by simp [Act.eval, Act.put]) (show Rd w3 T 1 (some ⟨wr.heap.size, 0, none⟩) 1 [.int .i64 z] from Rd.blit2 (w := wr.drew) (cs := #[.int .i64 z]) hg3) (by intro u hu; simp only [List.mem_cons, List.not_mem_nil, or_false] at hu; subst hu; rfl) (by omega) b3.size rfl rfl ?_; intro A4 c4 w4 hown4 hg4 hat4; have b4 : Below wr.heap.size wr w4 := b3.grown hg4 b3.size (fun k hk => (own_lt hown3 k hk).1))
          | (refine step_append_any (c := 1) (w := w3.alloc (.cells #[.int .i64 z] 3)) (news := [.int .i64 z]) Tryd.underlying22 int_elem rfl (by omega) rfl rfl (by simp [Act.eval, Act.put]) (hown3.alloc _) (by simp [Act.eval, Act.put]) (show Rd (w3.alloc (.cells #[.int .i64 z] 3)) T 1 (some ⟨w3.heap.size, 0, none⟩) 1 [.int .i64 z] from (Rd.lit (cs := #[.int .i64 z]) rfl).any) (by intro u hu; simp only [List.mem_cons, List.not_mem_nil, or_false] at hu; subst hu; rfl) (by omega) (Nat.le_trans b3.size (by simp)) rfl rfl ?_; intro A4 c4 w4 hown4 hg4 hat4; have b4 : Below wr.heap.size wr w4 := (b3.alloc b3.size _).grown hg4 (Nat.le_trans b3.size (by simp)) (fun k hk => (own_lt hown3 k hk).1))
          | (refine step_append_any (c := c) (w := wr.drew) (news := ii (l.take j)) Tryd.underlying22 int_elem rfl (by omega) rfl rfl (by simp [Act.eval, Act.put]) (World.ownsRow_nil _ wr.heap.size _ _) (by simp [Act.eval, Act.put]) R1.out.drew (ii_one _) (by omega) (Nat.le_refl _) (Nat.zero_add _) (List.nil_append _) ?_; intro A3 c3 w3 hown3 hg3 hat3; have b3 : Below wr.heap.size wr w3 := ((Below.refl _ _).drew).grown hg3 (Nat.le_refl _) (fun k hk => by cases hk))
          | (refine step_append_any (c := c) (w := wr.drew.alloc _) (news := ii (l.take j)) Tryd.underlying22 int_elem rfl (by omega) rfl rfl (by simp [Act.eval, Act.put]) (World.ownsRow_nil _ wr.heap.size _ _) (by simp [Act.eval, Act.put]) (R1.out.drew.alloc _) (ii_one _) (by omega) (by simp) (Nat.zero_add _) (List.nil_append _) ?_; intro A3 c3 w3 hown3 hg3 hat3; have b3 : Below wr.heap.size wr w3 := (((Below.refl _ _).drew).alloc (Nat.le_refl _) _).grown hg3 (by simp) (fun k hk => by cases hk)))
        all_goals
          go_wp2_with fail
          go_ret2
          refine ⟨A5, c5, ?_, ?_, ?_⟩
          · show Ending.returned (.tuple #[.slice A5 (n + 1) c5, _]) = .returned (.tuple #[.slice A5 (ins z l).length c5, _])
            rw [Hend.out.2]
            rfl
          · show Rd w5 T 1 A5 (ins z l).length (ii (ins z l))
            rw [Hend.out.2, Hend.out.1]
            have := (Rd.of_own hown5).any
            exact this
          · exact hb1.trans (b5.mono hb1.size)
theorem addR_any (A : Option Addr) (n c : Nat) (l : List Int) (z : Int) (w : World) {ok : Nat → Prop} (hr : Rd w ok 1 A n (ii l)) (hn : n ≤ 1000000) (hnc : n ≤ c) (hcm : c ≤ maxLen) :
    Calls Tryd.prog 7 #[.slice A n c, .int .i64 z] w (RefPost w (addOf l z)) := by
  by_cases hc : cmay l = true
  · by_cases h1 : z < 1
    · exact addR_arg A n c l z w hr hn (.inr (.inl h1))
    · by_cases h2 : 64 < z
      · exact addR_arg A n c l z w hr hn (.inr (.inr h2))
      · by_cases h : z ∈ l
        · exact addR_no A n c l z w hr hn hc h1 h2 (.inl h)
        · by_cases h3 : (n : Int) ≤ 6
          · exact addR_yes A n c l z w hr hc h1 h2 h h3 hnc hcm
          · exact addR_no A n c l z w hr hn hc h1 h2 (.inr ⟨h, by omega⟩)
  · exact addR_arg A n c l z w hr hn (.inl (by simpa using hc))
theorem remR_no (A : Option Addr) (n c : Nat) (l : List Int) (z : Int) (w : World) {ok : Nat → Prop} (hr : Rd w ok 1 A n (ii l)) (hn : n ≤ 1000000) (h : cmay l = false ∨ (cmay l = true ∧ z ∉ l) ∨ (cmay l = true ∧ z ∈ l ∧ (n : Int) < 2)) :
    Calls Tryd.prog 9 #[.slice A n c, .int .i64 z] w (RefPost w (remOf l z)) := by
  have hm := mayR_any A n c l w hr hn
  have hin := fun W (hb : Below w.heap.size w W) => in_any A n c l z W (hr.below hb) hn
  have hll := ii_len hr
  rcases h with hc | ⟨hc, h⟩ | ⟨hc, h, h3⟩
  · have hq : remOf l z = (1, []) := by unfold remOf; rw [if_pos hc]
    rw [hq]
    rw [hc] at hm
    have Hm := Lib.hid hm
    clear hm hq hr hin hc
    go_enter Tryd.func9, Tryd.ntmps9
    go_wp2_with fail
    refine Hm.out.mono ?_
    rintro e w1 ⟨rfl, hb1⟩
    go_wp2_with fail
    go_ret2
    exact RefPost.err hb1
  · have hq : remOf l z = (8, []) := by unfold remOf; rw [if_neg (by rw [hc]; simp), if_pos h]
    rw [hq]
    rw [hc] at hm
    rw [decide_eq_false h] at hin
    have Hm := Lib.hid hm
    have Hin := Lib.hid hin
    clear hm hq hr hin hc h
    go_enter Tryd.func9, Tryd.ntmps9
    go_wp2_with fail
    refine Hm.out.mono ?_
    rintro e w1 ⟨rfl, hb1⟩
    go_wp2_with fail
    refine (Hin.out _ hb1).mono ?_
    rintro e w2 ⟨rfl, rfl⟩
    go_wp2_with fail
    go_ret2
    exact RefPost.err hb1
  · have hl1 := (cmay_iff.1 hc).2.2.1
    have hq : remOf l z = (1, []) := by unfold remOf; rw [if_neg (by rw [hc]; simp), if_neg (by simpa using h), if_pos (by omega)]
    rw [hq]
    rw [hc] at hm
    rw [decide_eq_true h] at hin
    have Hm := Lib.hid hm
    have Hin := Lib.hid hin
    clear hm hq hr hin hc h hl1
    go_enter Tryd.func9, Tryd.ntmps9
    go_wp2_with fail
    refine Hm.out.mono ?_
    rintro e w1 ⟨rfl, hb1⟩
    go_wp2_with fail
    refine (Hin.out _ hb1).mono ?_
    rintro e w2 ⟨rfl, rfl⟩
    go_wp2_with fail
    go_ret2
    exact RefPost.err hb1
theorem del_snoc {z x : Int} {l : List Int} {j : Nat} (hx : l[j]? = some x) : del z (l.take (j + 1)) = del z (l.take j) ++ (if x = z then [] else [x]) := by
  unfold del
  rw [List.take_add_one, hx, List.filter_append]
  congr 1
  by_cases h : x = z
  · simp [h]
  · simp [h]
set_option maxHeartbeats 1600000 in
theorem remR_yes (A : Option Addr) (n c : Nat) (l : List Int) (z : Int) (w : World) {ok : Nat → Prop} (hr : Rd w ok 1 A n (ii l)) (hn : n ≤ 1000000) (hc : cmay l = true) (h : z ∈ l) (h3 : ¬ (n : Int) < 2) :
    Calls Tryd.prog 9 #[.slice A n c, .int .i64 z] w (RefPost w (remOf l z)) := by
  have hm := mayR_any A n c l w hr hn
  have hin := fun W (hb : Below w.heap.size w W) => in_any A n c l z W (hr.below hb) hn
  have hll := ii_len hr
  have hq : remOf l z = (0, del z l) := by unfold remOf; rw [if_neg (by rw [hc]; simp), if_neg (by simpa using h), if_neg (by omega)]
  rw [hq]
  rw [hc] at hm
  rw [decide_eq_true h] at hin
  have h3d : decide ((n : Int) < 2) = false := decide_eq_false h3
  have Hm := Lib.hid hm
  have Hin := Lib.hid hin
  have Hr := Lib.hid hr
  have Hll := Lib.hid hll
  clear hm hq hr hin hc h hll
  go_enter Tryd.func9, Tryd.ntmps9
  go_wp2_with fail
  refine Hm.out.mono ?_
  rintro e w1 ⟨rfl, hb1⟩
  go_wp2_with fail
  refine (Hin.out _ hb1).mono ?_
  rintro e w2 ⟨rfl, rfl⟩
  replace Hr := Lib.hid (Hr.out.below hb1)
  go_wp2_with fail
  go_loopg [6, 7] n (fun m s6 s7 wr => ∃ (j : Nat) (A' : Option Addr) (c' q : Nat), m = n - j ∧ j ≤ n ∧ s7 = .int .i64 j ∧ s6 = .slice A' q c' ∧ q ≤ j ∧ wr.ownsRow w1.heap.size 3 1 (.slice A' q c') q (ii (del z (l.take j))) ∧ Below w1.heap.size w1 wr)
  case atStart => exact ⟨0, none, 0, 0, by omega, by omega, rfl, rfl, by omega, World.ownsRow_nil _ _ _ _, Below.refl _ _⟩
  case round =>
    obtain ⟨j, A', c', q, hrm, hj, rfl, rfl, hqj, hown, hb⟩ := hrel
    have Hrm := Lib.hid hrm
    clear hrm
    by_cases hlt : j < n
    · obtain ⟨b, o, x, rfl, _, hbl, hx, hc⟩ := ii_cell (Hr.out.below hb) hlt
      have hltI : (j : Int) < n := by omega
      have hs := del_snoc (z := z) hx
      clear hx
      by_cases hxz : x = z
      · rw [if_pos hxz, List.append_nil] at hs
        subst hxz
        have Hs := Lib.hid hs
        clear hs
        have hne : (x != x) = false := by simp
        go_wp2_with fail
        go_roundg (n - (j + 1))
        case measure => have := Hrm.out; omega
        case rel => exact ⟨j + 1, A', c', q, rfl, by omega, by go_num, rfl, by omega, by rw [Hs.out]; exact hown, hb⟩
      · rw [if_neg hxz] at hs
        have hs2 : ii (del z (l.take (j + 1))) = ii (del z (l.take j)) ++ [.int .i64 x] := by rw [hs]; unfold ii; simp
        have Hs := Lib.hid hs2
        clear hs hs2
        have hne : (x != z) = true := by simpa using hxz
        have hz := hb.size
        go_wp2_with (at_builtin; refine wpList_append_any (news := [.int .i64 x]) _ Tryd.underlying22 int_elem rfl (by omega) rfl rfl rfl (hown.alloc _) rfl (show Rd (wr.alloc (.cells #[.int .i64 x] 3)) T 1 (some ⟨wr.heap.size, 0, none⟩) 1 [.int .i64 x] from (Rd.lit (cs := #[.int .i64 x]) rfl).any) (by intro u hu; simp only [List.mem_cons, List.not_mem_nil, or_false] at hu; subst hu; rfl) (by omega) (by simp; omega) rfl rfl ?_; intro A1 c1 w3 hown1 hg1 hat1)
        go_roundg (n - (j + 1))
        case measure => have := Hrm.out; omega
        case rel => exact ⟨j + 1, A1, c1, q + 1, rfl, by omega, by go_num, rfl, by omega, by rw [Hs.out]; exact hown1, (hb.alloc hz _).grown hg1 (by simp; omega) (fun k hk => (own_lt hown k hk).1)⟩
    · obtain rfl : j = n := by omega
      rw [List.take_of_length_le (Nat.le_of_eq Hll.out)] at hown
      have hq : q = (del z l).length := by have := hown.1; simpa [ii] using this.symm
      subst hq
      have Ho := Lib.hid hown
      clear hown
      go_wp2_with fail
      go_ret2
      exact ⟨A', c', rfl, (Rd.of_own Ho.out).any, hb1.trans (hb.mono hb1.size)⟩
theorem remR_any (A : Option Addr) (n c : Nat) (l : List Int) (z : Int) (w : World) {ok : Nat → Prop} (hr : Rd w ok 1 A n (ii l)) (hn : n ≤ 1000000) :
    Calls Tryd.prog 9 #[.slice A n c, .int .i64 z] w (RefPost w (remOf l z)) := by
  by_cases hc : cmay l = true
  · by_cases h : z ∈ l
    · by_cases h3 : (n : Int) < 2
      · exact remR_no A n c l z w hr hn (.inr (.inr ⟨hc, h, h3⟩))
      · exact remR_yes A n c l z w hr hn hc h h3
    · exact remR_no A n c l z w hr hn (.inr (.inl ⟨hc, h⟩))
  · exact remR_no A n c l z w hr hn (.inl (by simpa using hc))
end Go.Proofs.YtedcjakgdoiomaaDoor
