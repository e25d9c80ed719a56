/- Walk: (*raft.Core).Tick.
   Walk: slices.Equal of members
   Walk: (*raft.Core).change
   Walk: (*raft.Core).Propose
   Wide structs, loaded and stored whole: their cells stay one word.
   Walks: (*raft.Core).View, Stored. -/
import Derived.Test.YtmhaahcbmdhinaaGreatDoorZM22
import Derived.Test.YtmhaahcbmdhinaaGreatDoorZM9
import Derived.Test.YtmhaahcbmdhinaaGreatDoorZM0
import Derived.Laws.Rows
import Derived.Laws.Tables
namespace Go.Proofs.YtmhaahcbmdhinaaGreatDoor
open Go.RowKit
set_option maxRecDepth 100000
set_option linter.unusedVariables false
set_option linter.unusedSimpArgs false
theorem CX.withGone {fb p : Nat} {w : World} {V U : Nat → Prop} {C : Cr} {m : Mb} (h : CX fb w p V U C m) (n : Int) : CTo fb w p V U { C with gone := n } (w.setCell ⟨p, 13, none⟩ (.int .i64 n)) V U m :=
 (CTo.refl h).cells (h.bx.set 13 _) (gb_set _ p 13 _) rfl rfl rfl rfl
set_option maxHeartbeats 12800000 in
theorem tick_any {fb p : Nat} {w : World} {V U : Nat → Prop} {C : Cr} {m : Mb} {k : Nat} (draw : Int) (h : CX fb w p V U C m) (ho : C.Ok k) (he : Env fb w) :
    Calls Tryz.prog 17 #[.pointer (some ⟨p, 0, none⟩), .int .i64 draw] w (OutPost fb w p V U (C.tick draw)) := by
  obtain ⟨W1, hW1⟩ : ∃ W1, W1 = w.setCell ⟨p, 13, none⟩ (.int .i64 (C.gone + 1)) := ⟨_, rfl⟩
  have hto : CTo fb w p V U { C with gone := C.gone + 1 } W1 V U m := by subst hW1; exact h.withGone _
  obtain ⟨W2, hW2⟩ : ∃ W2, W2 = W1.setCell ⟨p, 13, none⟩ (.int .i64 0) := ⟨_, rfl⟩
  have hto2 : CTo fb w p V U { C with gone := 0 } W2 V U m := by subst hW2; exact hto.trans (hto.cx.withGone 0)
  have hg := ho.gone
  have hok2 : ({ C with gone := 0 } : Cr).Ok k := ho.goneTo (by omega)
  have hen2 : Env fb W2 := he.kept hto2.kept h.vf
  have wg : IntKind.i64.wrap (C.gone + 1) = C.gone + 1 := by rw [IntKind.wrap_i64]; omega
  have hs := ho.span
  have c13 : w.cell? ⟨p, 13, none⟩ = some (.int .i64 C.gone) := h.bx.c 13
  have f13 := h.bx.f 13
  have d13 : W1.cell? ⟨p, 13, none⟩ = some (.int .i64 (C.gone + 1)) := hto.cx.bx.c 13
  have e13 := hto.cx.bx.f 13
  have d7 : W1.cell? ⟨p, 7, none⟩ = some (.int .i64 C.role) := hto.cx.bx.c 7
  have d12 : W1.cell? ⟨p, 12, none⟩ = some (.int .i64 C.span) := hto.cx.bx.c 12
  have d14 : W1.cell? ⟨p, 14, none⟩ = some (.int .i64 C.wait) := hto.cx.bx.c 14
  have htk : C.tick draw = if C.role = 2 then (if C.gone + 1 < max 1 (C.span / 4) then ({ C with gone := C.gone + 1 }, []) else Cr.sendAll { C with gone := 0 }) else if C.gone + 1 < C.wait then ({ C with gone := C.gone + 1 }, []) else if Cr.may { C with gone := 0 } = false ∨ 1099511627776 ≤ C.s.tm then ({ C with gone := 0 }, []) else Cr.stand { C with gone := 0 } draw := by
    rw [← Int.tdiv_eq_ediv_of_nonneg (a := C.span) (b := 4) (by omega)]
    rfl
  have hal := sendAll_any hto2.cx.drew hok2 hen2.drew
  have hmy := cmayC_any hto2.cx.drew hok2 hen2.drew
  have hst := fun W (hb : Below W2.heap.size W2 W) (ht : C.s.tm < 1099511627776) => stand_any draw (hto2.cx.below hb) hok2 (hen2.new hb) ht
  have htm : ∀ W, Below W2.heap.size W2 W → W.cell? ⟨p, 0, none⟩ = some (.int .i64 C.s.tm) := fun W hb => by rw [← h.s_eq.1]; exact (hto2.cx.below hb).bx.c 0
  have vq : V m.q := h.vq
  have Hal := Lib.hid hal
  have Hmy := Lib.hid hmy
  have Hst := Lib.hid hst
  have Htm := Lib.hid htm
  clear hal hmy hst htm
  have HW := Lib.hid (And.intro hW1 hW2)
  have H := Lib.hid (And.intro hto (And.intro hto2 (And.intro hok2 (And.intro hen2 htk))))
  clear h ho he hto hto2 hok2 hen2 htk hW1 hW2 hg
  go_enter Tryz.func17, Tryz.ntmps17
  go_upto_region 4 with (fail)
  rw [← HW.out.1]
  clear c13 f13
  by_cases hr : C.role = 2
  · have hr' : (C.role == 2) = true := by simp [hr]
    go_upto_region 5 with (fail)
    go_region
    by_cases hc : C.gone + 1 < max 1 (C.span / 4)
    · have hc' : decide (C.gone + 1 < max 1 (C.span / 4)) = true := decide_eq_true hc
      go_wp2_with fail
      go_ret
      rw [H.out.2.2.2.2, if_pos hr, if_pos hc]
      exact outNil (H.out.1.below (Below.refl _ _).drew)
    · have hc' : decide (C.gone + 1 < max 1 (C.span / 4)) = false := decide_eq_false hc
      go_upto_region 8 with (fail)
      rw [← HW.out.2]
      clear d13 e13 d7 d12 d14
      go_wp2_with fail
      refine Hal.out.mono ?_
      intro e w9 h9
      obtain ⟨A9, n9, c9, X9, rfl, r9, m9, x9, k9⟩ := h9
      have K9 := Lib.hid (And.intro r9 (And.intro m9 (And.intro x9 k9)))
      clear r9 m9 x9 k9
      go_wp2_with fail
      go_ret
      rw [H.out.2.2.2.2, if_pos hr, if_neg (show ¬ C.gone + 1 < max 1 (C.span / 4) by omega)]
      exact OutPost.up (H.out.2.1.below (Below.refl _ _).drew) (AllPost.out vq H.out.2.1.cx.drew.ul ⟨A9, n9, c9, X9, rfl, K9.out.1, K9.out.2.1, K9.out.2.2.1, K9.out.2.2.2⟩)
  · have hr' : (C.role == 2) = false := by simp [hr]
    go_upto_region 9 with (fail)
    go_region
    by_cases hc : C.gone + 1 < C.wait
    · have hc' : decide (C.gone + 1 < C.wait) = true := decide_eq_true hc
      go_wp2_with fail
      go_ret
      rw [H.out.2.2.2.2, if_neg hr, if_pos hc]
      exact outNil (H.out.1.below (Below.refl _ _).drew)
    · have hc' : decide (C.gone + 1 < C.wait) = false := decide_eq_false hc
      go_upto_region 12 with (fail)
      rw [← HW.out.2]
      clear d13 e13 d7 d12 d14
      go_wp2_with fail
      refine Hmy.out.mono ?_
      intro e w9 h9
      obtain ⟨rfl, hb9⟩ := h9
      have hb9' : Below W2.heap.size W2 w9 := (Below.refl _ _).drew.trans hb9
      have ctm := Htm.out w9 hb9'
      have B9 := Lib.hid hb9'
      clear hb9 hb9'
      obtain ⟨qm, hqm⟩ : ∃ q, Cr.may { C with gone := 0 } = q := ⟨_, rfl⟩
      have htk := H.out.2.2.2.2
      rw [if_neg hr, if_neg (show ¬ C.gone + 1 < C.wait by omega), hqm] at htk
      have HK := Lib.hid htk
      rw [hqm]
      clear htk hqm
      cases qm with
      | false =>
        go_wp2_with fail
        go_ret
        rw [HK.out, if_pos (.inl (by trivial))]
        exact outNil (H.out.2.1.below B9.out)
      | true =>
        by_cases ht : 1099511627776 ≤ C.s.tm
        · have ht' : decide (1099511627776 ≤ C.s.tm) = true := decide_eq_true ht
          go_wp2_with fail
          go_ret
          rw [HK.out, if_pos (.inr ht)]
          exact outNil (H.out.2.1.below B9.out)
        · have ht' : decide (1099511627776 ≤ C.s.tm) = false := decide_eq_false ht
          have Hs := Lib.hid (Hst.out w9 B9.out (by omega))
          go_wp2_with fail
          refine Hs.out.mono ?_
          intro e w10 h10
          obtain ⟨A5, n5, c5, X5, V5, U5, M5, rfl, j1, j2, j3, j4⟩ := h10
          have K5 := Lib.hid (And.intro j1 (And.intro j2 (And.intro j3 j4)))
          clear j1 j2 j3 j4
          go_wp2_with fail
          go_ret
          rw [HK.out, if_neg (by rintro (h1 | h1); · cases h1
                                 · omega)]
          exact OutPost.up (H.out.2.1.below B9.out) ⟨A5, n5, c5, X5, V5, U5, M5, rfl, K5.out.1, K5.out.2.1, K5.out.2.2.1, K5.out.2.2.2⟩
set_option maxHeartbeats 1600000 in
theorem confEq_any (A : Option Addr) (n c : Nat) (B : Option Addr) (m d : Nat) (x y : List Int) (w : World) {ok ok' : Nat → Prop} (hr : Rd w ok 1 A n (ii x)) (hr' : Rd w ok' 1 B m (ii y)) (hn : n ≤ 1000000) (hm : m ≤ 1000000) :
  Calls Tryz.prog 116 #[.slice A n c, .slice B m d] w (BoolPost w (decide (x = y))) := by
 have hl := ii_len hr
 have hl' := ii_len hr'
 by_cases hnm : n = m
 ·subst hnm
  have hne : ((n : Int) != (n : Int)) = false := by simp
  have Hl := Lib.hid (And.intro hl hl')
  clear hl hl'
  go_enter Tryz.func116, Tryz.ntmps116
  go_wp2_with fail
  go_loopg [5, 13] n (fun k s5 s13 wr => ∃ j : Nat, k = n - j ∧ j ≤ n ∧ s13 = .int .i64 j ∧ x.take j = y.take j ∧ Below w.heap.size w wr)
  case atStart => exact ⟨0, by omega, by omega, rfl, rfl, Below.refl _ _⟩
  case round =>
   obtain ⟨j, hk, hj, rfl, hq, hb⟩ := hrel
   have Hk := Lib.hid hk
   have Hq := Lib.hid hq
   have Hb := Lib.hid hb
   clear hk hq hb
   by_cases hlt : j < n
   ·obtain ⟨b, o, a1, rfl, _, _, hx, hc⟩ := ii_cell (hr.below Hb.out) hlt
    obtain ⟨b', o', a2, rfl, _, _, hy, hc'⟩ := ii_cell (hr'.below Hb.out) hlt
    have hltI : (j : Int) < n := by omega
    have h0I : (0 : Int) ≤ j := by omega
    have Hxy := Lib.hid (And.intro hx hy)
    clear hx hy
    by_cases he : a1 = a2
    ·subst he
     have hee : ((a1 : Int) != a1) = false := by simp
     have hq2 : x.take (j + 1) = y.take (j + 1) := by rw [List.take_add_one, List.take_add_one, Hxy.out.1, Hxy.out.2, Hq.out]
     have Hq2 := Lib.hid hq2
     clear hq2
     go_wp2_with fail
     go_region_law (fail)
     all_goals
      go_wp2_with fail
      go_roundg (n - (j + 1))
      case measure => have := Hk.out; omega
      case rel => exact ⟨j + 1, rfl, by omega, by go_num, Hq2.out, Hb.out.drew⟩
    ·have hee : ((a1 : Int) != a2) = true := by simpa using he
     have hno : decide (x = y) = false := decide_eq_false fun e => he (by have h1 := Hxy.out.1; rw [e, Hxy.out.2] at h1; injection h1 with h1; exact h1.symm)
     have Hno := Lib.hid hno
     clear hno
     go_wp2_with fail
     go_region_law (fail)
     all_goals
      go_wp2_with fail
      go_ret
      exact ⟨ret_bool (by rw [Hno.out]), Hb.out.drew⟩
   ·obtain rfl : j = n := by omega
    have hyes : decide (x = y) = true := decide_eq_true (by have := Hq.out; rwa [List.take_of_length_le (Nat.le_of_eq Hl.out.1), List.take_of_length_le (Nat.le_of_eq Hl.out.2)] at this)
    have Hyes := Lib.hid hyes
    clear hyes
    go_wp2_with fail
    go_ret
    exact ⟨ret_bool (by rw [Hyes.out]), Hb.out⟩
 ·have hne : ((n : Int) != (m : Int)) = true := by simpa using (by omega : ¬ (n : Int) = m)
  have hno : decide (x = y) = false := decide_eq_false fun e => hnm (by rw [← hl, ← hl', e])
  rw [hno]
  clear hl hl' hno
  go_enter Tryz.func116, Tryz.ntmps116
  go_wp2_with fail
  go_ret
  exact ⟨rfl, Below.refl _ _⟩
def chgK (cm : List Int) : Option (List Int) → Int
 | none => 1
 | some l => if near l cm = false ∨ l = cm then 1 else 0
def MvAt (W : World) : Option Er → Value → Prop
 | none, v => v = .pointer none
 | some x, v => ∃ B, v = .pointer (some ⟨B, 0, none⟩) ∧ Bx W B #[.int .i64 x.a, .int .i64 x.b, .int .i64 x.c, .slice x.A x.n x.m]
theorem mvAt {W : World} {s : Nat} {q : Option Er} {e : Ending} (h : match q with
   | none => e = .returned (.pointer none)
   | some x => ∃ B, e = .returned (.pointer (some ⟨B, 0, none⟩)) ∧ s ≤ B ∧ Bx W B #[.int .i64 x.a, .int .i64 x.b, .int .i64 x.c, .slice x.A x.n x.m]) : ∃ v, e = .returned v ∧ MvAt W q v := by
 cases q with
 | none => exact ⟨_, h, rfl⟩
 | some x => obtain ⟨B, h1, _, h2⟩ := h; exact ⟨_, h1, B, rfl, h2⟩
def ErrPost (W : World) (k : Int) (e : Ending) (w' : World) : Prop := e = .returned (errE k) ∧ Below W.heap.size W w'
set_option maxHeartbeats 12800000 in
theorem change_any {fb p : Nat} {w : World} {V U : Nat → Prop} {C : Cr} {m : Mb} {k : Nat} (D : Option Addr) (nd cd : Nat) (d : List UInt8) (h : CX fb w p V U C m) (ho : C.Ok k) (he : Env fb w) (hd : Rd w T 1 D nd (bs d)) (hnd : nd ≤ cd ∧ cd ≤ maxLen) :
    Calls Tryz.prog 53 #[.pointer (some ⟨p, 0, none⟩), .slice D nd cd] w (ErrPost w (C.change d)) := by
  have hf := h.fit ho
  have hcl := clast_any h hf ho.may
  have hme := fun W (hb : Below w.heap.size w W) => member_any p C.last m.s.A m.s.n m.s.c m.s.L W ((h.below hb).bx.c 4) (h.below hb).at_.l hf.z.1
  have hou := fun W (hb : Below w.heap.size w W) => ours_any (h.below hb) hf
  have hdc := fun W (hb : Below w.heap.size w W) => cdec_any D nd cd d W (hd.below hb) hnd.1 hnd.2 (he.new hb).ev
  have hmb := fun W (hb : Below w.heap.size w W) => members_any (h.below hb) hf ho.may (he.new hb).ev
  have hln := (cmay_iff.1 (members_may ho.may)).2.2.2
  have c9 : ∀ W, Below w.heap.size w W → W.cell? ⟨p, 9, none⟩ = some (.int .i64 C.commit) := fun W hb => (h.below hb).bx.c 9
  have hq : memE C.s.l C.last = (m.s.L.reverse.find? (mch C.last)).map en := by
    obtain ⟨_, _, _, _, k5, _⟩ := h.s_eq
    rw [← k5, memE_er]
  obtain ⟨q, hqe⟩ : ∃ q, m.s.L.reverse.find? (mch C.last) = q := ⟨_, rfl⟩
  rw [hqe] at hq
  obtain ⟨qo, hqo⟩ : ∃ q, C.ours = q := ⟨_, rfl⟩
  obtain ⟨qd, hqd⟩ : ∃ q, confD d = q := ⟨_, rfl⟩
  obtain ⟨cb, hcb⟩ : ∃ cb, ((q.map en).any (fun e => decide (C.commit < e.a)) || !qo) = cb := ⟨_, rfl⟩
  have hch : C.change d = if cb = true then 31 else chgK C.members qd := by
    unfold Cr.change
    rw [hq, hqo, ← hcb, ← hqd]
    by_cases h1 : (q.map en).any (fun e => decide (C.commit < e.a)) = true ∨ qo = false
    · rw [if_pos h1, if_pos (by rcases h1 with h1 | h1 <;> simp [h1])]
    · rw [if_neg h1, if_neg (by simp only [not_or, Bool.not_eq_true, Bool.not_eq_false] at h1; simp [h1.1, h1.2])]
      cases confD d <;> rfl
  rw [hqo] at hou
  rw [hqd] at hdc
  have hcm : ∀ l, qd = some l → l.length ≤ 7 := fun l hl => (cmay_iff.1 (confD_may' (hqd.trans hl))).2.2.2
  have Hcl := Lib.hid hcl
  have H := Lib.hid (And.intro hme (And.intro hou (And.intro hdc (And.intro hmb (And.intro hln (And.intro c9 (And.intro hqe (And.intro hch (And.intro hcm hcb)))))))))
  clear h ho he hf hcl hme hou hdc hmb hln c9 hq hqe hqo hqd hch hcm hcb hd hnd
  go_enter Tryz.func53, Tryz.ntmps53
  go_wp2_with fail
  refine Hcl.out.mono ?_
  rintro e w3 ⟨rfl, hS3⟩
  go_wp2_with fail
  refine (H.out.1 _ hS3).mono ?_
  rintro e w4 ⟨hb4, hm4⟩
  rw [H.out.2.2.2.2.2.2.1] at hm4
  have hS4 : Below w.heap.size w w4 := hS3.trans (hb4.mono hS3.size)
  have S4 := Lib.hid hS4
  clear hb4 hS3 hS4
  obtain ⟨v, rfl, hv⟩ := mvAt hm4
  clear hm4
  go_upto_region 2 with (fail)
  go_cut [30] (fun s30 W => s30 = .bool cb ∧ Below w.heap.size w W)
  case first =>
    cases q with
    | none =>
      obtain rfl := hv
      have F4 : Hid (∀ W, Below w4.heap.size w4 W → W.cell? ⟨p, 9, none⟩ = some (.int .i64 C.commit)) := Lib.hid fun W hb => H.out.2.2.2.2.2.1 W (S4.out.trans (hb.mono S4.out.size))
      refine wp_region_S 18 (fun W => Below w4.heap.size w4 W) (.take 0 (.take 1 (.take 2 (.take 3 (.take 4 (.take 5 (.take 6 (.take 7 (.take 8 (.take 9 (.take 10 (.take 11 (.take 12 (.take 13 (.take 14 (.take 15 (.one 16 (.take 17 (.one 18 (.nil)))))))))))))))))))) (by kernel_rfl) (Below.refl _ _).drew (fun _ _ _ _ h => h) (fun hS => ?_)
      repeat (first
        | (refine wpS_take (v := ?_) rfl rfl (by rfl) ?_ ?_; rotate_left; (intro W hW; have hf := F4.out W hW; go_split_ands; go_simp; try with_reducible rfl); try simp only [Act.put, lyA, lyB, lyC])
        | (refine wpS_skip rfl rfl (by rfl) ?_; try simp only [Act.put, lyA, lyB, lyC]))
      refine wpS_one rfl (by rfl) (fun K hK => ?_)
      go_simp
      go_at_call 60
      refine (H.out.2.1 _ S4.out.drew).mono ?_
      rintro e w5 ⟨rfl, hb5⟩
      have hS5 : Below w4.heap.size w4 w5 := (Below.refl _ _).drew.trans hb5
      clear hb5
      refine hK (fun W => Below w4.heap.size w4 W) _ _ (fun _ h => h) hS5 ?_
      clear hK K
      try simp only [Act.put, lyA, lyB, lyC]
      repeat (first
        | (refine wpS_take (v := ?_) rfl rfl (by rfl) ?_ ?_; rotate_left; (intro W hW; have hf := F4.out W hW; go_split_ands; go_simp; try with_reducible rfl); try simp only [Act.put, lyA, lyB, lyC])
        | (refine wpS_skip rfl rfl (by rfl) ?_; try simp only [Act.put, lyA, lyB, lyC]))
      refine wpS_last rfl (by rfl) (fun K hK => ?_)
      go_simp
      refine hK _ _ ?_
      clear hK K
      try simp only [Act.put, lyA, lyB, lyC]
      refine wpS_nil ?_
      go_wp2_with fail
      go_meet
      case rel => exact ⟨by rw [← H.out.2.2.2.2.2.2.2.2.2]; cases qo <;> rfl, S4.out.trans (hS5.mono S4.out.size)⟩
    | some x =>
      obtain ⟨B, rfl, bB⟩ := hv
      have F4 : Hid (∀ W, Below w4.heap.size w4 W → W.cell? ⟨p, 9, none⟩ = some (.int .i64 C.commit) ∧ W.cell? ⟨B, 0, none⟩ = some (.int .i64 x.a)) := Lib.hid fun W hb => ⟨H.out.2.2.2.2.2.1 W (S4.out.trans (hb.mono S4.out.size)), (bB.below hb).c 0⟩
      clear bB
      by_cases hx : C.commit < x.a
      · have hx' : decide (C.commit < x.a) = true := decide_eq_true hx
        refine wp_region_S 18 (fun W => Below w4.heap.size w4 W) (.take 0 (.take 1 (.take 2 (.take 3 (.take 4 (.take 5 (.take 6 (.take 7 (.take 8 (.take 9 (.take 10 (.take 11 (.take 12 (.take 13 (.take 14 (.take 15 (.one 16 (.take 17 (.one 18 (.nil)))))))))))))))))))) (by kernel_rfl) (Below.refl _ _).drew (fun _ _ _ _ h => h) (fun hS => ?_)
        repeat (first
          | (refine wpS_take (v := ?_) rfl rfl (by rfl) ?_ ?_; rotate_left; (intro W hW; have hf := F4.out W hW; go_split_ands; go_simp; try with_reducible rfl); try simp only [Act.put, lyA, lyB, lyC])
          | (refine wpS_skip rfl rfl (by rfl) ?_; try simp only [Act.put, lyA, lyB, lyC]))
        refine wpS_pass rfl rfl (by rfl) ?_
        try simp only [Act.put, lyA, lyB, lyC]
        repeat (first
          | (refine wpS_take (v := ?_) rfl rfl (by rfl) ?_ ?_; rotate_left; (intro W hW; have hf := F4.out W hW; go_split_ands; go_simp; try with_reducible rfl); try simp only [Act.put, lyA, lyB, lyC])
          | (refine wpS_skip rfl rfl (by rfl) ?_; try simp only [Act.put, lyA, lyB, lyC]))
        refine wpS_last rfl (by rfl) (fun K hK => ?_)
        go_simp
        refine hK _ _ ?_
        clear hK K
        try simp only [Act.put, lyA, lyB, lyC]
        refine wpS_nil ?_
        go_wp2_with fail
        go_meet
        case rel =>
          refine ⟨?_, S4.out.drew⟩
          rw [← H.out.2.2.2.2.2.2.2.2.2]
          show Value.bool true = Value.bool (decide (C.commit < x.a) || !qo)
          rw [hx']
          rfl
      · have hx' : decide (C.commit < x.a) = false := decide_eq_false hx
        refine wp_region_S 18 (fun W => Below w4.heap.size w4 W) (.take 0 (.take 1 (.take 2 (.take 3 (.take 4 (.take 5 (.take 6 (.take 7 (.take 8 (.take 9 (.take 10 (.take 11 (.take 12 (.take 13 (.take 14 (.take 15 (.one 16 (.take 17 (.one 18 (.nil)))))))))))))))))))) (by kernel_rfl) (Below.refl _ _).drew (fun _ _ _ _ h => h) (fun hS => ?_)
        repeat (first
          | (refine wpS_take (v := ?_) rfl rfl (by rfl) ?_ ?_; rotate_left; (intro W hW; have hf := F4.out W hW; go_split_ands; go_simp; try with_reducible rfl); try simp only [Act.put, lyA, lyB, lyC])
          | (refine wpS_skip rfl rfl (by rfl) ?_; try simp only [Act.put, lyA, lyB, lyC]))
        refine wpS_one rfl (by rfl) (fun K hK => ?_)
        go_simp
        go_at_call 60
        refine (H.out.2.1 _ S4.out.drew).mono ?_
        rintro e w5 ⟨rfl, hb5⟩
        have hS5 : Below w4.heap.size w4 w5 := (Below.refl _ _).drew.trans hb5
        clear hb5
        refine hK (fun W => Below w4.heap.size w4 W) _ _ (fun _ h => h) hS5 ?_
        clear hK K
        try simp only [Act.put, lyA, lyB, lyC]
        repeat (first
          | (refine wpS_take (v := ?_) rfl rfl (by rfl) ?_ ?_; rotate_left; (intro W hW; have hf := F4.out W hW; go_split_ands; go_simp; try with_reducible rfl); try simp only [Act.put, lyA, lyB, lyC])
          | (refine wpS_skip rfl rfl (by rfl) ?_; try simp only [Act.put, lyA, lyB, lyC]))
        refine wpS_last rfl (by rfl) (fun K hK => ?_)
        go_simp
        refine hK _ _ ?_
        clear hK K
        try simp only [Act.put, lyA, lyB, lyC]
        refine wpS_nil ?_
        go_wp2_with fail
        go_meet
        case rel =>
          refine ⟨?_, S4.out.trans (hS5.mono S4.out.size)⟩
          rw [← H.out.2.2.2.2.2.2.2.2.2]
          show Value.bool (!qo) = Value.bool (decide (C.commit < x.a) || !qo)
          rw [hx']
          rfl
  case rest =>
    obtain ⟨rfl, hbc⟩ := hcut
    have BC := Lib.hid hbc
    clear hv hbc
    cases cb with
    | true =>
      go_wp2_with fail
      go_ret
      rw [H.out.2.2.2.2.2.2.2.1, if_pos (by trivial)]
      exact ⟨rfl, BC.out⟩
    | false =>
      go_wp2_with fail
      refine (H.out.2.2.1 wc BC.out).mono ?_
      intro e w5 h5
      cases qd with
      | none =>
        obtain ⟨rfl, hb5⟩ := h5
        rw [errE_ne (by decide)]
        have B5 := Lib.hid (BC.out.trans (hb5.mono BC.out.size))
        clear hb5
        go_wp2_with fail
        go_ret
        rw [H.out.2.2.2.2.2.2.2.1, if_neg (by intro h; cases h)]
        exact ⟨rfl, B5.out⟩
      | some l =>
        obtain ⟨A5, n5, c5, rfl, o5, hb5⟩ := h5
        rw [errE0]
        have hl5 : n5 ≤ 7 := by have := ii_len (Rd.of_own o5); have := H.out.2.2.2.2.2.2.2.2.1 l rfl; omega
        have B5 := Lib.hid (And.intro (BC.out.trans (hb5.mono BC.out.size)) (Rd.of_own o5))
        clear hb5 o5
        go_wp2_with fail
        refine (H.out.2.2.2.1 w5 B5.out.1).mono ?_
        intro e w6 h6
        obtain ⟨A6, n6, c6, rfl, o6, hb6⟩ := h6
        have hl6 : n6 ≤ 7 := by have := ii_len (Rd.of_own o6); have := H.out.2.2.2.2.1; omega
        have hnr := near_any A5 n5 c5 l A6 n6 c6 C.members w6 (B5.out.2.below hb6) (by omega) (Rd.of_own o6) (by omega)
        obtain ⟨qn, hqn⟩ : ∃ q, near l C.members = q := ⟨_, rfl⟩
        rw [hqn] at hnr
        have B6 := Lib.hid (And.intro (B5.out.1.trans (hb6.mono B5.out.1.size)) (And.intro (B5.out.2.below hb6) hqn))
        have Hnr := Lib.hid hnr
        clear hb6 o6 hnr hqn
        go_wp2_with fail
        refine Hnr.out.mono ?_
        rintro e w7 ⟨rfl, rfl⟩
        cases qn with
        | false =>
          go_wp2_with fail
          go_ret
          rw [H.out.2.2.2.2.2.2.2.1, if_neg (by intro h; cases h)]
          unfold chgK
          dsimp only
          rw [if_pos (.inl B6.out.2.2)]
          exact ⟨rfl, B6.out.1⟩
        | true =>
          go_wp2_with fail
          refine (H.out.2.2.2.1 w6 B6.out.1).mono ?_
          intro e w8 h8
          obtain ⟨A8, n8, c8, rfl, o8, hb8⟩ := h8
          have hl8 : n8 ≤ 7 := by have := ii_len (Rd.of_own o8); have := H.out.2.2.2.2.1; omega
          have heq := confEq_any A5 n5 c5 A8 n8 c8 l C.members w8 (B6.out.2.1.below hb8) (Rd.of_own o8) (by omega) (by omega)
          have B8 := Lib.hid (B6.out.1.trans (hb8.mono B6.out.1.size))
          have Heq := Lib.hid heq
          clear hb8 o8 heq
          go_wp2_with fail
          refine Heq.out.mono ?_
          rintro e w9 ⟨rfl, hb9⟩
          have B9 := Lib.hid (B8.out.trans (hb9.mono B8.out.size))
          clear hb9
          by_cases hlm : l = C.members
          · have hlm' : decide (l = C.members) = true := decide_eq_true hlm
            rw [hlm']
            go_wp2_with fail
            go_ret
            rw [H.out.2.2.2.2.2.2.2.1, if_neg (by intro h; cases h)]
            unfold chgK
            dsimp only
            rw [if_pos (.inr hlm)]
            exact ⟨rfl, B9.out⟩
          · have hlm' : decide (l = C.members) = false := decide_eq_false hlm
            rw [hlm']
            go_wp2_with fail
            go_ret
            rw [H.out.2.2.2.2.2.2.2.1, if_neg (by intro h; cases h)]
            unfold chgK
            dsimp only
            rw [if_neg (by rintro (h1 | h1)
                           · rw [B6.out.2.2] at h1; cases h1
                           · exact hlm h1)]
            exact ⟨rfl, B9.out⟩
def ProPost (fb : Nat) (W : World) (p : Nat) (V U : Nat → Prop) (r : Cr × Int × List Ms × Int) (e : Ending) (w' : World) : Prop :=
 ∃ A n c, e = .returned (.tuple #[.int .i64 r.2.1, .slice A n c, errE r.2.2.2]) ∧ OutPost fb W p V U (r.1, r.2.2.1) (.returned (.slice A n c)) w'
theorem proNo {fb p : Nat} {W w' : World} {V U : Nat → Prop} {C : Cr} {m : Mb} {k : Int} {e : Ending} (h : CX fb W p V U C m) (hb : Below W.heap.size W w') (he : e = .returned (.tuple #[.int .i64 0, .slice none 0 0, errE k])) : ProPost fb W p V U (C, 0, [], k) e w' :=
 ⟨none, 0, 0, he, outNil ((CTo.refl h).below hb)⟩
theorem change_ne {C : Cr} {d : List UInt8} (h : C.change d = 0) : (confD d).isNone = false := by
 unfold Cr.change at h
 split at h
 ·cases h
 ·cases hd : confD d with
  | none => rw [hd] at h; cases h
  | some l => rfl
def proG (C : Cr) (kd : Int) (d : List UInt8) : Cr × Int × List Ms × Int :=
 if (addL C.s.b C.s.t C.s.l C.s.tm kd d).1 = 0 then ((C.withLog (addL C.s.b C.s.t C.s.l C.s.tm kd d).2).tell.1, (C.withLog (addL C.s.b C.s.t C.s.l C.s.tm kd d).2).last, (C.withLog (addL C.s.b C.s.t C.s.l C.s.tm kd d).2).tell.2, 0) else (C, 0, [], (addL C.s.b C.s.t C.s.l C.s.tm kd d).1)
theorem propose_eq (C : Cr) (kd : Int) (d : List UInt8) : C.propose kd d = if C.role = 2 then (if kd = 2 ∧ C.change d ≠ 0 then (C, 0, [], C.change d) else proG C kd d) else (C, 0, [], 30) := by
 unfold Cr.propose proG
 by_cases h1 : C.role = 2
 ·rw [if_neg (fun h => h h1), if_pos h1]
  split
  ·rfl
  ·dsimp only
   by_cases h2 : (addL C.s.b C.s.t C.s.l C.s.tm kd d).1 = 0
   ·rw [if_neg (fun h => h h2), if_pos h2]
   ·rw [if_pos h2, if_neg h2]
 ·rw [if_pos h1, if_neg h1]
set_option maxHeartbeats 25600000 in
theorem propose_any {fb p : Nat} {w : World} {V U : Nat → Prop} {C : Cr} {m : Mb} {k : Nat} (kd : Int) (D : Option Addr) (nd cd : Nat) (d : List UInt8) (h : CX fb w p V U C m) (ho : C.Ok k) (he : Env fb w) (hd : Rd w T 1 D nd (bs d)) (hnd : nd ≤ cd ∧ cd ≤ maxLen) :
  Calls Tryz.prog 19 #[.pointer (some ⟨p, 0, none⟩), .int .i64 kd, .slice D nd cd] w (ProPost fb w p V U (C.propose kd d)) := by
 have hpr := propose_eq C kd d
 have hf := h.fit ho
 have c7 : w.cell? ⟨p, 7, none⟩ = some (.int .i64 C.role) := h.bx.c 7
 have hch := change_any D nd cd d h ho he hd hnd
 have Hch := Lib.hid hch
 have H := Lib.hid (And.intro h (And.intro ho (And.intro he (And.intro hd (And.intro hf hpr)))))
 clear h ho he hd hnd hf hch hpr
 by_cases hr : C.role = 2
 ·have hr' : (C.role != 2) = false := by simp [hr]
  have hpr2 := H.out.2.2.2.2.2
  rw [if_pos hr] at hpr2
  have HP := Lib.hid hpr2
  clear hpr2
  by_cases hk2 : kd = 2 ∧ C.change d ≠ 0
  ·obtain ⟨rfl, hcn⟩ := hk2
   have HP2 := HP.out
   rw [if_pos ⟨rfl, hcn⟩] at HP2
   have HPP := Lib.hid HP2
   clear HP2
   go_enter Tryz.func19, Tryz.ntmps19
   go_wp2_with fail
   refine Hch.out.mono ?_
   rintro e w1 ⟨rfl, hb1⟩
   have B1 := Lib.hid hb1
   clear hb1
   have e1 : errE (C.change d) = .iface 105 (.int .i64 (C.change d)) := errE_ne hcn
   rw [e1]
   go_wp2_with fail
   go_ret3
   rw [HPP.out]
   exact proNo H.out.1 B1.out (by rw [e1]; rfl)
  ·have HP2 := HP.out
   rw [if_neg hk2] at HP2
   have hdn : kd = 2 → (confD d).isNone = false := fun e => change_ne (Decidable.of_not_not fun h2 => hk2 ⟨e, h2⟩)
   have HPP := Lib.hid (And.intro HP2 hdn)
   clear HP2 hdn
   go_enter Tryz.func19, Tryz.ntmps19
   go_upto_if 27 with (fail)
   go_cut [9] (fun s9 W => Below w.heap.size w W)
   case first =>
    by_cases he2 : kd = 2
    ·subst he2
     have hc0 : C.change d = 0 := Decidable.of_not_not fun h2 => hk2 ⟨rfl, h2⟩
     go_wp2_with fail
     refine Hch.out.mono ?_
     rintro e w1 ⟨rfl, hb1⟩
     have B1 := Lib.hid hb1
     clear hb1
     rw [hc0, errE0]
     go_wp2_with fail
     go_meet
     case rel => exact B1.out
    ·have he2' : (kd == 2) = false := by simp [he2]
     go_wp2_with fail
     go_meet
     case rel => exact Below.refl _ _
   case rest =>
    have BC := Lib.hid hcut
    clear hcut
    have hto := (CTo.refl H.out.1).below BC.out
    have hcx := hto.cx
    have hfit := H.out.2.2.2.2.1
    obtain ⟨s1, s2, s3, s4, s5, s6, s7⟩ := H.out.1.s_eq
    have hadd := fun W (hb : Below wc.heap.size wc W) => add_all m.s.b m.s.t C.s.tm kd m.s.A m.s.n m.s.c m.s.L D nd cd d W (hcx.below hb).at_.l.any (hcx.below hb).at_.dat (hcx.at_.wel hfit) (fun x hx => (hfit.w x hx).2) (hcx.lm H.out.2.1.may) ((H.out.2.2.2.1.below BC.out).below hb)
    have er : addL m.s.b m.s.t (m.s.L.map en) C.s.tm kd d = addL C.s.b C.s.t C.s.l C.s.tm kd d := by rw [s3, s4, s5]
    rw [er] at hadd
    have hpg : proG C kd d = if (addL C.s.b C.s.t C.s.l C.s.tm kd d).1 = 0 then ((C.withLog (addL C.s.b C.s.t C.s.l C.s.tm kd d).2).tell.1, (C.withLog (addL C.s.b C.s.t C.s.l C.s.tm kd d).2).last, (C.withLog (addL C.s.b C.s.t C.s.l C.s.tm kd d).2).tell.2, 0) else (C, 0, [], (addL C.s.b C.s.t C.s.l C.s.tm kd d).1) := rfl
    have hgrow : (addL C.s.b C.s.t C.s.l C.s.tm kd d).1 = 0 → (C.withLog (addL C.s.b C.s.t C.s.l C.s.tm kd d).2).Ok k ∧ (addL C.s.b C.s.t C.s.l C.s.tm kd d).2 = C.s.l ++ [⟨lstA C.s.b C.s.l + 1, C.s.tm, kd, d⟩] := fun h0 => ⟨H.out.2.1.grow HPP.out.2 h0, (addL_may H.out.2.1.may HPP.out.2 h0).2⟩
    obtain ⟨r, hr⟩ : ∃ r, addL C.s.b C.s.t C.s.l C.s.tm kd d = r := ⟨_, rfl⟩
    rw [hr] at hadd hpg hgrow
    have F : ∀ W, Below wc.heap.size wc W → W.cell? ⟨p, 2, none⟩ = some (.int .i64 m.s.b) ∧ W.cell? ⟨p, 3, none⟩ = some (.int .i64 m.s.t) ∧ W.cell? ⟨p, 4, none⟩ = some (.slice m.s.A m.s.n m.s.c) ∧ W.cell? ⟨p, 0, none⟩ = some (.int .i64 C.s.tm) := fun W hb =>
     ⟨(hcx.below hb).bx.c 2, (hcx.below hb).bx.c 3, (hcx.below hb).bx.c 4, by rw [← s1]; exact (hcx.below hb).bx.c 0⟩
    have FF := Lib.hid F
    have Hadd := Lib.hid hadd
    have es : C.s = C.s := rfl
    have s3' : m.s.b = C.s.b := s3
    have HT := Lib.hid (And.intro hpg (And.intro hto (And.intro hgrow (And.intro s3 (And.intro s4 s5)))))
    clear hto hcx hfit s1 s2 s3 s4 s5 s6 s7 hadd er hpg hr hgrow F es s3' c7
    go_upto_region 9 with (fail)
    by_cases h0 : r.1 = 0
    ·refine wp_region_S 18 (fun W => Below wc.heap.size wc W) (.take 0 (.take 1 (.take 2 (.take 3 (.take 4 (.take 5 (.take 6 (.take 7 (.take 8 (.take 9 (.take 10 (.take 11 (.two 12 16 (.take 13 (.take 14 (.take 15 (.one 16 (.one 17 (.one 18 (.nil))))))) (.one 12 (.take 13 (.take 14 (.take 15 (.one 17 (.one 18 (.nil)))))))))))))))))))) (by kernel_rfl) (Below.refl _ _).drew (fun _ _ _ _ h => h) (fun hS => ?_)
     repeat (first
      | (refine wpS_take (v := ?_) rfl rfl (by rfl) ?_ ?_; rotate_left; (intro W hW; have hf := FF.out W hW; go_split_ands; go_simp; try with_reducible rfl); try simp only [Act.put, lyA, lyB, lyC])
      | (refine wpS_skip rfl rfl (by rfl) ?_; try simp only [Act.put, lyA, lyB, lyC]))
     refine wpS_two rfl rfl (by rfl) (by rfl) (fun K hK => ?_) (fun K hK => ?_)
     ·go_simp
      go_at_call 54
      refine (Hadd.out _ (Below.refl _ _).drew).mono ?_
      intro e w5 h5
      unfold AddAll at h5
      rw [if_pos h0] at h5
      obtain ⟨A5, c5, L5, rfl, r5, d5, m5, k5, k6, hb5⟩ := h5
      have hS5 : Below wc.heap.size wc w5 := ((Below.refl _ _).drew).trans (hb5.mono (Nat.le_refl _))
      have N5 := Lib.hid (And.intro r5 (And.intro d5 (And.intro m5 (And.intro k5 k6))))
      clear r5 d5 m5
      clear hb5
      refine hK (fun W => Below wc.heap.size wc W) _ _ (fun _ h => h) hS5 ?_
      clear hK K
      try simp only [Act.put, lyA, lyB, lyC]
      repeat (first
       | (refine wpS_take (v := ?_) rfl rfl (by rfl) ?_ ?_; rotate_left; (intro W hW; have hf := FF.out W hW; go_split_ands; go_simp; try with_reducible rfl); try simp only [Act.put, lyA, lyB, lyC])
       | (refine wpS_skip rfl rfl (by rfl) ?_; try simp only [Act.put, lyA, lyB, lyC]))
      refine wpS_one rfl (by rfl) (fun K hK => ?_)
      go_simp
      obtain ⟨va, hva⟩ : ∃ va, va = World.alloc w5 (.cells #[.int .i64 0, .int .i64 0, .slice none 0 0] 38) := ⟨_, rfl⟩
      obtain ⟨gx, hgx⟩ : ∃ g, g = (World.heap w5).size := ⟨_, rfl⟩
      have bxa : Bx va gx #[.int .i64 0, .int .i64 0, .slice none 0 0] := by subst hva hgx; exact Bx.new _ _ _ rfl
      have hbva : Below wc.heap.size wc va := by subst hva; exact (hS5).alloc (hS5).size _
      have hzx : wc.heap.size ≤ gx ∧ gx < va.heap.size ∧ (World.heap w5).size = gx := by subst hva hgx; exact ⟨(hS5).size, by simp, rfl⟩
      have hal : Below gx w5 va := by subst hva hgx; exact (Below.refl _ _).alloc (Nat.le_refl _) _
      rw [← hva]
      try rw [← hgx]
      clear hva hgx
      refine hK (fun W => Below wc.heap.size wc W) _ _ (fun _ h => h) hbva ?_
      clear hK K
      try simp only [Act.put, lyA, lyB, lyC]
      obtain ⟨q0, q1, q2, p0, p1, p2⟩ := bxa.c3
      refine wpS_one rfl (by rfl) (fun K hK => ?_)
      go_simp
      obtain ⟨W7, hW7⟩ : ∃ W7, W7 = ((va.setCell ⟨gx, 0, none⟩ (.int .i64 m.s.b)).setCell ⟨gx, 1, none⟩ (.int .i64 m.s.t)).setCell ⟨gx, 2, none⟩ (.slice A5 (m.s.n + 1) c5) := ⟨_, rfl⟩
      have b7 : Bx W7 gx #[.int .i64 m.s.b, .int .i64 m.s.t, .slice A5 (m.s.n + 1) c5] := by subst hW7; exact ((bxa.set 0 _).set 1 _).set 2 _
      have hb7 : Below wc.heap.size wc W7 := by subst hW7; exact ((hbva.setCell (p := ⟨gx, 0, none⟩) hzx.1 _).setCell (p := ⟨gx, 1, none⟩) hzx.1 _).setCell (p := ⟨gx, 2, none⟩) hzx.1 _
      have hk5 : ∀ b, wc.drew.heap.size ≤ b → b < w5.heap.size → W7.heap[b]? = w5.heap[b]? := fun b _ hb => by
       have hne : b ≠ gx := by have := hzx.2.2; omega
       subst hW7
       iterate 3 refine (Below.heap_setCell _ _ _ b hne).trans ?_
       exact hal.block b (by have := hzx.2.2; omega)
      have r7 : Rd W7 (wc.heap.size ≤ ·) 4 A5 (m.s.n + 1) (flat ecell L5) := (N5.out.1.keep (w' := W7) (fun b hb hl => hk5 b hb hl)).mono fun b hb => (hb : wc.heap.size ≤ b)
      have d7 : ∀ y ∈ L5, Rd W7 (wc.heap.size ≤ ·) 1 y.A y.n (bs y.d) ∧ y.n ≤ y.m ∧ y.m ≤ maxLen := fun y hy => ⟨((N5.out.2.1 y hy).1.keep (w' := W7) (fun b hb hl => hk5 b hb hl)).mono fun b hb => (hb : wc.heap.size ≤ b), (N5.out.2.1 y hy).2⟩
      rw [← hW7]
      have K7 := Lib.hid (And.intro b7 hb7)
      have N7 := Lib.hid (And.intro r7 d7)
      clear r7 d7
      clear hk5
      clear hW7 b7 hb7
      refine hK (fun W => Below wc.heap.size wc W) _ _ (fun _ h => h) K7.out.2 ?_
      clear hK K q0 q1 q2 p0 p1 p2
      try simp only [Act.put, lyA, lyB, lyC]
      refine wpS_last rfl (by rfl) (fun K hK => ?_)
      go_simp
      refine hK _ _ ?_
      clear hK K
      try simp only [Act.put, lyA, lyB, lyC]
      refine wpS_nil ?_
      have hu7 : ∀ b, wc.heap.size ≤ b → ¬ U b := fun b hb hu => by have := HT.out.2.1.cx.ul b hu; omega
      have hto8 := (HT.out.2.1.below K7.out.2).logged (A := A5) (n := m.s.n + 1) (c := c5) (L := L5) (N7.out.1.mono hu7) (fun y hy => ⟨(N7.out.2 y hy).1.mono hu7, (N7.out.2 y hy).2⟩) ⟨N5.out.2.2.2.1, N5.out.2.2.2.2⟩
      have e5 : L5.map en = r.2 := by
       rw [(HT.out.2.2.1 h0).2, N5.out.2.2.1, HT.out.2.2.2.1, HT.out.2.2.2.2.2]
      rw [e5] at hto8
      have q2 : W7.cell? ⟨p, 2, none⟩ = some (.int .i64 m.s.b) := (HT.out.2.1.below K7.out.2).cx.bx.c 2
      have q3 : W7.cell? ⟨p, 3, none⟩ = some (.int .i64 m.s.t) := (HT.out.2.1.below K7.out.2).cx.bx.c 3
      have q4 : W7.cell? ⟨p, 4, none⟩ = some (.slice m.s.A m.s.n m.s.c) := (HT.out.2.1.below K7.out.2).cx.bx.c 4
      have p2 := (HT.out.2.1.below K7.out.2).cx.bx.f 2
      have p3 := (HT.out.2.1.below K7.out.2).cx.bx.f 3
      have p4 := (HT.out.2.1.below K7.out.2).cx.bx.f 4
      obtain ⟨z0, z1, z2, _, _, _⟩ := K7.out.1.c3
      obtain ⟨W8, hW8⟩ : ∃ W8, W8 = ((W7.setCell ⟨p, 2, none⟩ (.int .i64 m.s.b)).setCell ⟨p, 3, none⟩ (.int .i64 m.s.t)).setCell ⟨p, 4, none⟩ (.slice A5 (m.s.n + 1) c5) := ⟨_, rfl⟩
      rw [← hW8] at hto8
      have hok8 : (C.withLog r.2).Ok k := (HT.out.2.2.1 h0).1
      have hen8 : Env fb W8 := H.out.2.2.1.kept hto8.kept H.out.1.vf
      have hcl8 := clast_any hto8.cx (hto8.cx.fit hok8) hok8.may
      have hal8 := fun W (hb : Below W8.heap.size W8 W) => sendAll_any (hto8.cx.below hb) hok8 (hen8.new hb)
      have T8 := Lib.hid (And.intro hto8 (And.intro hok8 hen8))
      have Hal8 := Lib.hid hal8
      have Hcl8 := Lib.hid hcl8
      clear hto8 hok8 hen8 hal8 e5 hu7 hcl8
      go_upto_region 13 with (fail)
      rw [← hW8]
      clear q2 q3 q4 p2 p3 p4 z0 z1 z2 hW8
      go_wp2_with fail
      refine Hcl8.out.mono ?_
      rintro e w8 ⟨rfl, hb8⟩
      have B8 := Lib.hid hb8
      clear hb8
      go_wp2_with fail
      refine (Hal8.out w8 B8.out).mono ?_
      intro e w9 h9
      obtain ⟨A9, n9, c9, X9, rfl, r9, m9, x9, k9⟩ := h9
      have hwid := (T8.out.1.cx.below B8.out).widen x9 k9 (N := fun b => A9.map (·.block) = some b) (own_lt r9.ow) (sendAll_keep _).1 (sendAll_keep _).2
      have hen9 : Env fb w9 := (T8.out.2.2.new B8.out).kept k9 fun b e => by rw [e]; exact T8.out.1.cx.vf _ T8.out.1.cx.vq
      have hadv := advance_any hwid T8.out.2.1.sendAll hen9
      have h9n : n9 ≤ 7 := by
       have h1 := r9.len
       have h2 := congrArg List.length m9
       rw [List.length_map, h1, sendAll_len] at h2
       have := others_len T8.out.2.1.may
       omega
      have K9 := Lib.hid (And.intro r9 (And.intro m9 (And.intro x9 k9)))
      have Hadv := Lib.hid hadv
      clear r9 m9 x9 k9 hwid hen9 hadv
      go_wp2_with fail
      refine Hadv.out.mono ?_
      intro e w10 h10
      obtain ⟨A10, n10, c10, X10, V10, U10, M10, rfl, r10, m10, u10, t10⟩ := h10
      have h10n : n10 ≤ 7 := by
       have h1 := r10.len
       have h2 := congrArg List.length m10
       rw [List.length_map, h1] at h2
       have := advance_len T8.out.2.1.sendAll
       omega
      have r9' : Rm w10 w8.heap.size A9 n9 c9 X9 := K9.out.1.kept t10.kept fun b hb => (T8.out.1.cx.below B8.out).ul b (T8.out.1.cx.vu b hb)
      have hz10 : w8.heap.size ≤ w10.heap.size := Nat.le_trans K9.out.2.2.2.size t10.kept.size
      have K10 := Lib.hid (And.intro r10 (And.intro m10 (And.intro u10 (And.intro t10 r9'))))
      clear r10 m10 u10 t10 r9'
      go_wp2_with (at_builtin; refine wpList_append_any _ Tryz.underlying54 msg_elem rfl (by omega) rfl rfl rfl K10.out.2.2.2.2.ow rfl (Rd.of_own K10.out.1.ow).any (mcell_one X10) (by omega) hz10 rfl rfl ?_; intro A11 c11 w11 hown11 hg11 hat11)
      go_ret3
      obtain ⟨j1, j2, j3⟩ := join_out (T8.out.1.cx.below B8.out) K9.out.1 K9.out.2.2.2 K10.out.1 K10.out.2.2.1 K10.out.2.2.2.1 hown11 hg11 hat11
      rw [HPP.out.1, HT.out.1, if_pos h0]
      refine ⟨A11, n9 + n10, c11, rfl, OutPost.up (T8.out.1.below B8.out) ⟨A11, n9 + n10, c11, X9 ++ X10, V10, U10, M10, rfl, j1, ?_, j2, j3⟩⟩
      rw [List.map_append, K9.out.2.1, K10.out.2.1]
      rfl
     ·go_simp
      obtain ⟨va, hva⟩ : ∃ va, va = (World.alloc wc (.cells #[.int .i64 0, .int .i64 0, .slice none 0 0] 38)).drew := ⟨_, rfl⟩
      obtain ⟨gx, hgx⟩ : ∃ g, g = wc.heap.size := ⟨_, rfl⟩
      have bxa : Bx va gx #[.int .i64 0, .int .i64 0, .slice none 0 0] := by subst hva hgx; exact (Bx.new _ _ _ rfl).drew
      have hbva : Below wc.heap.size wc va := by subst hva; exact ((Below.refl _ _).alloc (Nat.le_refl _) _).drew
      have hzx : wc.heap.size ≤ gx ∧ gx < va.heap.size ∧ wc.heap.size = gx := by subst hva hgx; exact ⟨Nat.le_refl _, by simp [World.drew], rfl⟩
      try rw [← hgx]
      rw [← hva]
      clear hva hgx
      refine hK (fun W => Below wc.heap.size wc W) _ _ (fun _ h => h) hbva ?_
      clear hK K
      try simp only [Act.put, lyA, lyB, lyC]
      refine wpS_one rfl (by rfl) (fun K hK => ?_)
      go_simp
      go_at_call 54
      refine (Hadd.out _ hbva).mono ?_
      intro e w5 h5
      unfold AddAll at h5
      rw [if_pos h0] at h5
      obtain ⟨A5, c5, L5, rfl, r5, d5, m5, k5, k6, hb5⟩ := h5
      have hS5 : Below wc.heap.size wc w5 := (hbva).trans (hb5.mono hbva.size)
      have bx5 := bxa.below hb5
      have N5 := Lib.hid (And.intro r5 (And.intro d5 (And.intro m5 (And.intro k5 k6))))
      clear r5 d5 m5
      clear hb5
      refine hK (fun W => Below wc.heap.size wc W) _ _ (fun _ h => h) hS5 ?_
      clear hK K
      try simp only [Act.put, lyA, lyB, lyC]
      repeat (first
       | (refine wpS_take (v := ?_) rfl rfl (by rfl) ?_ ?_; rotate_left; (intro W hW; have hf := FF.out W hW; go_split_ands; go_simp; try with_reducible rfl); try simp only [Act.put, lyA, lyB, lyC])
       | (refine wpS_skip rfl rfl (by rfl) ?_; try simp only [Act.put, lyA, lyB, lyC]))
      obtain ⟨q0, q1, q2, p0, p1, p2⟩ := bx5.c3
      refine wpS_one rfl (by rfl) (fun K hK => ?_)
      go_simp
      obtain ⟨W7, hW7⟩ : ∃ W7, W7 = ((w5.setCell ⟨gx, 0, none⟩ (.int .i64 m.s.b)).setCell ⟨gx, 1, none⟩ (.int .i64 m.s.t)).setCell ⟨gx, 2, none⟩ (.slice A5 (m.s.n + 1) c5) := ⟨_, rfl⟩
      have b7 : Bx W7 gx #[.int .i64 m.s.b, .int .i64 m.s.t, .slice A5 (m.s.n + 1) c5] := by subst hW7; exact ((bx5.set 0 _).set 1 _).set 2 _
      have hb7 : Below wc.heap.size wc W7 := by subst hW7; exact ((hS5.setCell (p := ⟨gx, 0, none⟩) hzx.1 _).setCell (p := ⟨gx, 1, none⟩) hzx.1 _).setCell (p := ⟨gx, 2, none⟩) hzx.1 _
      have hk5 : ∀ b, va.heap.size ≤ b → W7.heap[b]? = w5.heap[b]? := fun b hb => by
       have hne : b ≠ gx := by have := hzx.2.1; omega
       subst hW7
       iterate 3 refine (Below.heap_setCell _ _ _ b hne).trans ?_
       rfl
      have r7 : Rd W7 (wc.heap.size ≤ ·) 4 A5 (m.s.n + 1) (flat ecell L5) := (N5.out.1.keep (w' := W7) (fun b hb _ => hk5 b hb)).mono fun b hb => (by have := hbva.size; omega : wc.heap.size ≤ b)
      have d7 : ∀ y ∈ L5, Rd W7 (wc.heap.size ≤ ·) 1 y.A y.n (bs y.d) ∧ y.n ≤ y.m ∧ y.m ≤ maxLen := fun y hy => ⟨((N5.out.2.1 y hy).1.keep (w' := W7) (fun b hb _ => hk5 b hb)).mono fun b hb => (by have := hbva.size; omega : wc.heap.size ≤ b), (N5.out.2.1 y hy).2⟩
      rw [← hW7]
      have K7 := Lib.hid (And.intro b7 hb7)
      have N7 := Lib.hid (And.intro r7 d7)
      clear r7 d7
      clear hk5
      clear hW7 b7 hb7
      refine hK (fun W => Below wc.heap.size wc W) _ _ (fun _ h => h) K7.out.2 ?_
      clear hK K q0 q1 q2 p0 p1 p2
      try simp only [Act.put, lyA, lyB, lyC]
      refine wpS_last rfl (by rfl) (fun K hK => ?_)
      go_simp
      refine hK _ _ ?_
      clear hK K
      try simp only [Act.put, lyA, lyB, lyC]
      refine wpS_nil ?_
      have hu7 : ∀ b, wc.heap.size ≤ b → ¬ U b := fun b hb hu => by have := HT.out.2.1.cx.ul b hu; omega
      have hto8 := (HT.out.2.1.below K7.out.2).logged (A := A5) (n := m.s.n + 1) (c := c5) (L := L5) (N7.out.1.mono hu7) (fun y hy => ⟨(N7.out.2 y hy).1.mono hu7, (N7.out.2 y hy).2⟩) ⟨N5.out.2.2.2.1, N5.out.2.2.2.2⟩
      have e5 : L5.map en = r.2 := by
       rw [(HT.out.2.2.1 h0).2, N5.out.2.2.1, HT.out.2.2.2.1, HT.out.2.2.2.2.2]
      rw [e5] at hto8
      have q2 : W7.cell? ⟨p, 2, none⟩ = some (.int .i64 m.s.b) := (HT.out.2.1.below K7.out.2).cx.bx.c 2
      have q3 : W7.cell? ⟨p, 3, none⟩ = some (.int .i64 m.s.t) := (HT.out.2.1.below K7.out.2).cx.bx.c 3
      have q4 : W7.cell? ⟨p, 4, none⟩ = some (.slice m.s.A m.s.n m.s.c) := (HT.out.2.1.below K7.out.2).cx.bx.c 4
      have p2 := (HT.out.2.1.below K7.out.2).cx.bx.f 2
      have p3 := (HT.out.2.1.below K7.out.2).cx.bx.f 3
      have p4 := (HT.out.2.1.below K7.out.2).cx.bx.f 4
      obtain ⟨z0, z1, z2, _, _, _⟩ := K7.out.1.c3
      obtain ⟨W8, hW8⟩ : ∃ W8, W8 = ((W7.setCell ⟨p, 2, none⟩ (.int .i64 m.s.b)).setCell ⟨p, 3, none⟩ (.int .i64 m.s.t)).setCell ⟨p, 4, none⟩ (.slice A5 (m.s.n + 1) c5) := ⟨_, rfl⟩
      rw [← hW8] at hto8
      have hok8 : (C.withLog r.2).Ok k := (HT.out.2.2.1 h0).1
      have hen8 : Env fb W8 := H.out.2.2.1.kept hto8.kept H.out.1.vf
      have hcl8 := clast_any hto8.cx (hto8.cx.fit hok8) hok8.may
      have hal8 := fun W (hb : Below W8.heap.size W8 W) => sendAll_any (hto8.cx.below hb) hok8 (hen8.new hb)
      have T8 := Lib.hid (And.intro hto8 (And.intro hok8 hen8))
      have Hal8 := Lib.hid hal8
      have Hcl8 := Lib.hid hcl8
      clear hto8 hok8 hen8 hal8 e5 hu7 hcl8
      go_upto_region 13 with (fail)
      rw [← hW8]
      clear q2 q3 q4 p2 p3 p4 z0 z1 z2 hW8
      go_wp2_with fail
      refine Hcl8.out.mono ?_
      rintro e w8 ⟨rfl, hb8⟩
      have B8 := Lib.hid hb8
      clear hb8
      go_wp2_with fail
      refine (Hal8.out w8 B8.out).mono ?_
      intro e w9 h9
      obtain ⟨A9, n9, c9, X9, rfl, r9, m9, x9, k9⟩ := h9
      have hwid := (T8.out.1.cx.below B8.out).widen x9 k9 (N := fun b => A9.map (·.block) = some b) (own_lt r9.ow) (sendAll_keep _).1 (sendAll_keep _).2
      have hen9 : Env fb w9 := (T8.out.2.2.new B8.out).kept k9 fun b e => by rw [e]; exact T8.out.1.cx.vf _ T8.out.1.cx.vq
      have hadv := advance_any hwid T8.out.2.1.sendAll hen9
      have h9n : n9 ≤ 7 := by
       have h1 := r9.len
       have h2 := congrArg List.length m9
       rw [List.length_map, h1, sendAll_len] at h2
       have := others_len T8.out.2.1.may
       omega
      have K9 := Lib.hid (And.intro r9 (And.intro m9 (And.intro x9 k9)))
      have Hadv := Lib.hid hadv
      clear r9 m9 x9 k9 hwid hen9 hadv
      go_wp2_with fail
      refine Hadv.out.mono ?_
      intro e w10 h10
      obtain ⟨A10, n10, c10, X10, V10, U10, M10, rfl, r10, m10, u10, t10⟩ := h10
      have h10n : n10 ≤ 7 := by
       have h1 := r10.len
       have h2 := congrArg List.length m10
       rw [List.length_map, h1] at h2
       have := advance_len T8.out.2.1.sendAll
       omega
      have r9' : Rm w10 w8.heap.size A9 n9 c9 X9 := K9.out.1.kept t10.kept fun b hb => (T8.out.1.cx.below B8.out).ul b (T8.out.1.cx.vu b hb)
      have hz10 : w8.heap.size ≤ w10.heap.size := Nat.le_trans K9.out.2.2.2.size t10.kept.size
      have K10 := Lib.hid (And.intro r10 (And.intro m10 (And.intro u10 (And.intro t10 r9'))))
      clear r10 m10 u10 t10 r9'
      go_wp2_with (at_builtin; refine wpList_append_any _ Tryz.underlying54 msg_elem rfl (by omega) rfl rfl rfl K10.out.2.2.2.2.ow rfl (Rd.of_own K10.out.1.ow).any (mcell_one X10) (by omega) hz10 rfl rfl ?_; intro A11 c11 w11 hown11 hg11 hat11)
      go_ret3
      obtain ⟨j1, j2, j3⟩ := join_out (T8.out.1.cx.below B8.out) K9.out.1 K9.out.2.2.2 K10.out.1 K10.out.2.2.1 K10.out.2.2.2.1 hown11 hg11 hat11
      rw [HPP.out.1, HT.out.1, if_pos h0]
      refine ⟨A11, n9 + n10, c11, rfl, OutPost.up (T8.out.1.below B8.out) ⟨A11, n9 + n10, c11, X9 ++ X10, V10, U10, M10, rfl, j1, ?_, j2, j3⟩⟩
      rw [List.map_append, K9.out.2.1, K10.out.2.1]
      rfl
    ·refine wp_region_S 18 (fun W => Below wc.heap.size wc W) (.take 0 (.take 1 (.take 2 (.take 3 (.take 4 (.take 5 (.take 6 (.take 7 (.take 8 (.take 9 (.take 10 (.take 11 (.two 12 16 (.take 13 (.take 14 (.take 15 (.one 16 (.one 17 (.one 18 (.nil))))))) (.one 12 (.take 13 (.take 14 (.take 15 (.one 17 (.one 18 (.nil)))))))))))))))))))) (by kernel_rfl) (Below.refl _ _).drew (fun _ _ _ _ h => h) (fun hS => ?_)
     repeat (first
      | (refine wpS_take (v := ?_) rfl rfl (by rfl) ?_ ?_; rotate_left; (intro W hW; have hf := FF.out W hW; go_split_ands; go_simp; try with_reducible rfl); try simp only [Act.put, lyA, lyB, lyC])
      | (refine wpS_skip rfl rfl (by rfl) ?_; try simp only [Act.put, lyA, lyB, lyC]))
     refine wpS_two rfl rfl (by rfl) (by rfl) (fun K hK => ?_) (fun K hK => ?_)
     ·go_simp
      go_at_call 54
      refine (Hadd.out _ (Below.refl _ _).drew).mono ?_
      intro e w5 h5
      unfold AddAll at h5
      rw [if_neg h0] at h5
      obtain ⟨rfl, hb5⟩ := h5
      have hS5 : Below wc.heap.size wc w5 := ((Below.refl _ _).drew).trans (hb5.mono (Nat.le_refl _))
      clear hb5
      refine hK (fun W => Below wc.heap.size wc W) _ _ (fun _ h => h) hS5 ?_
      clear hK K
      try simp only [Act.put, lyA, lyB, lyC]
      repeat (first
       | (refine wpS_take (v := ?_) rfl rfl (by rfl) ?_ ?_; rotate_left; (intro W hW; have hf := FF.out W hW; go_split_ands; go_simp; try with_reducible rfl); try simp only [Act.put, lyA, lyB, lyC])
       | (refine wpS_skip rfl rfl (by rfl) ?_; try simp only [Act.put, lyA, lyB, lyC]))
      refine wpS_one rfl (by rfl) (fun K hK => ?_)
      go_simp
      obtain ⟨va, hva⟩ : ∃ va, va = World.alloc w5 (.cells #[.int .i64 0, .int .i64 0, .slice none 0 0] 38) := ⟨_, rfl⟩
      obtain ⟨gx, hgx⟩ : ∃ g, g = (World.heap w5).size := ⟨_, rfl⟩
      have bxa : Bx va gx #[.int .i64 0, .int .i64 0, .slice none 0 0] := by subst hva hgx; exact Bx.new _ _ _ rfl
      have hbva : Below wc.heap.size wc va := by subst hva; exact (hS5).alloc (hS5).size _
      have hzx : wc.heap.size ≤ gx ∧ gx < va.heap.size ∧ (World.heap w5).size = gx := by subst hva hgx; exact ⟨(hS5).size, by simp, rfl⟩
      have hal : Below gx w5 va := by subst hva hgx; exact (Below.refl _ _).alloc (Nat.le_refl _) _
      rw [← hva]
      try rw [← hgx]
      clear hva hgx
      refine hK (fun W => Below wc.heap.size wc W) _ _ (fun _ h => h) hbva ?_
      clear hK K
      try simp only [Act.put, lyA, lyB, lyC]
      obtain ⟨q0, q1, q2, p0, p1, p2⟩ := bxa.c3
      refine wpS_one rfl (by rfl) (fun K hK => ?_)
      go_simp
      obtain ⟨W7, hW7⟩ : ∃ W7, W7 = ((va.setCell ⟨gx, 0, none⟩ (.int .i64 0)).setCell ⟨gx, 1, none⟩ (.int .i64 0)).setCell ⟨gx, 2, none⟩ (.slice none 0 0) := ⟨_, rfl⟩
      have b7 : Bx W7 gx #[.int .i64 0, .int .i64 0, .slice none 0 0] := by subst hW7; exact ((bxa.set 0 _).set 1 _).set 2 _
      have hb7 : Below wc.heap.size wc W7 := by subst hW7; exact ((hbva.setCell (p := ⟨gx, 0, none⟩) hzx.1 _).setCell (p := ⟨gx, 1, none⟩) hzx.1 _).setCell (p := ⟨gx, 2, none⟩) hzx.1 _
      rw [← hW7]
      have K7 := Lib.hid (And.intro b7 hb7)
      clear hW7 b7 hb7
      refine hK (fun W => Below wc.heap.size wc W) _ _ (fun _ h => h) K7.out.2 ?_
      clear hK K q0 q1 q2 p0 p1 p2
      try simp only [Act.put, lyA, lyB, lyC]
      refine wpS_last rfl (by rfl) (fun K hK => ?_)
      go_simp
      refine hK _ _ ?_
      clear hK K
      try simp only [Act.put, lyA, lyB, lyC]
      refine wpS_nil ?_
      go_wp2_with fail
      go_ret3
      rw [HPP.out.1, HT.out.1, if_neg h0]
      exact proNo H.out.1 (BC.out.trans (K7.out.2.mono BC.out.size)) (by rw [errE_ne h0]; rfl)
     ·go_simp
      obtain ⟨va, hva⟩ : ∃ va, va = (World.alloc wc (.cells #[.int .i64 0, .int .i64 0, .slice none 0 0] 38)).drew := ⟨_, rfl⟩
      obtain ⟨gx, hgx⟩ : ∃ g, g = wc.heap.size := ⟨_, rfl⟩
      have bxa : Bx va gx #[.int .i64 0, .int .i64 0, .slice none 0 0] := by subst hva hgx; exact (Bx.new _ _ _ rfl).drew
      have hbva : Below wc.heap.size wc va := by subst hva; exact ((Below.refl _ _).alloc (Nat.le_refl _) _).drew
      have hzx : wc.heap.size ≤ gx ∧ gx < va.heap.size ∧ wc.heap.size = gx := by subst hva hgx; exact ⟨Nat.le_refl _, by simp [World.drew], rfl⟩
      try rw [← hgx]
      rw [← hva]
      clear hva hgx
      refine hK (fun W => Below wc.heap.size wc W) _ _ (fun _ h => h) hbva ?_
      clear hK K
      try simp only [Act.put, lyA, lyB, lyC]
      refine wpS_one rfl (by rfl) (fun K hK => ?_)
      go_simp
      go_at_call 54
      refine (Hadd.out _ hbva).mono ?_
      intro e w5 h5
      unfold AddAll at h5
      rw [if_neg h0] at h5
      obtain ⟨rfl, hb5⟩ := h5
      have hS5 : Below wc.heap.size wc w5 := (hbva).trans (hb5.mono hbva.size)
      have bx5 := bxa.below hb5
      clear hb5
      refine hK (fun W => Below wc.heap.size wc W) _ _ (fun _ h => h) hS5 ?_
      clear hK K
      try simp only [Act.put, lyA, lyB, lyC]
      repeat (first
       | (refine wpS_take (v := ?_) rfl rfl (by rfl) ?_ ?_; rotate_left; (intro W hW; have hf := FF.out W hW; go_split_ands; go_simp; try with_reducible rfl); try simp only [Act.put, lyA, lyB, lyC])
       | (refine wpS_skip rfl rfl (by rfl) ?_; try simp only [Act.put, lyA, lyB, lyC]))
      obtain ⟨q0, q1, q2, p0, p1, p2⟩ := bx5.c3
      refine wpS_one rfl (by rfl) (fun K hK => ?_)
      go_simp
      obtain ⟨W7, hW7⟩ : ∃ W7, W7 = ((w5.setCell ⟨gx, 0, none⟩ (.int .i64 0)).setCell ⟨gx, 1, none⟩ (.int .i64 0)).setCell ⟨gx, 2, none⟩ (.slice none 0 0) := ⟨_, rfl⟩
      have b7 : Bx W7 gx #[.int .i64 0, .int .i64 0, .slice none 0 0] := by subst hW7; exact ((bx5.set 0 _).set 1 _).set 2 _
      have hb7 : Below wc.heap.size wc W7 := by subst hW7; exact ((hS5.setCell (p := ⟨gx, 0, none⟩) hzx.1 _).setCell (p := ⟨gx, 1, none⟩) hzx.1 _).setCell (p := ⟨gx, 2, none⟩) hzx.1 _
      rw [← hW7]
      have K7 := Lib.hid (And.intro b7 hb7)
      clear hW7 b7 hb7
      refine hK (fun W => Below wc.heap.size wc W) _ _ (fun _ h => h) K7.out.2 ?_
      clear hK K q0 q1 q2 p0 p1 p2
      try simp only [Act.put, lyA, lyB, lyC]
      refine wpS_last rfl (by rfl) (fun K hK => ?_)
      go_simp
      refine hK _ _ ?_
      clear hK K
      try simp only [Act.put, lyA, lyB, lyC]
      refine wpS_nil ?_
      go_wp2_with fail
      go_ret3
      rw [HPP.out.1, HT.out.1, if_neg h0]
      exact proNo H.out.1 (BC.out.trans (K7.out.2.mono BC.out.size)) (by rw [errE_ne h0]; rfl)
 ·have hr' : (C.role != 2) = true := by simp [hr]
  go_enter Tryz.func19, Tryz.ntmps19
  go_wp2_with fail
  go_ret3
  rw [H.out.2.2.2.2.2, if_neg hr]
  exact proNo H.out.1 (Below.refl _ _) (by rw [errE_ne (by decide)]; rfl)
end Go.Proofs.YtmhaahcbmdhinaaGreatDoor
namespace Go.Proofs.YtmhaahcbmdhinaaGreatDoor
open Go.RowKit
set_option linter.unusedVariables false
theorem Bx.set7 {W : World} {g : Nat} {o0 o1 o2 o3 o4 o5 o6 : Value} (h : Bx W g #[o0, o1, o2, o3, o4, o5, o6]) (a b c d e f k : Value) :
  Bx (((((((W.setCell ⟨g, 0, none⟩ a).setCell ⟨g, 1, none⟩ b).setCell ⟨g, 2, none⟩ c).setCell ⟨g, 3, none⟩ d).setCell ⟨g, 4, none⟩ e).setCell ⟨g, 5, none⟩ f).setCell ⟨g, 6, none⟩ k) g #[a, b, c, d, e, f, k] := by
 have h1 : Bx (W.setCell ⟨g, 0, none⟩ a) g #[a, o1, o2, o3, o4, o5, o6] := h.set 0 a
 have h2 : Bx ((W.setCell ⟨g, 0, none⟩ a).setCell ⟨g, 1, none⟩ b) g #[a, b, o2, o3, o4, o5, o6] := h1.set 1 b
 have h3 : Bx (((W.setCell ⟨g, 0, none⟩ a).setCell ⟨g, 1, none⟩ b).setCell ⟨g, 2, none⟩ c) g #[a, b, c, o3, o4, o5, o6] := h2.set 2 c
 have h4 : Bx ((((W.setCell ⟨g, 0, none⟩ a).setCell ⟨g, 1, none⟩ b).setCell ⟨g, 2, none⟩ c).setCell ⟨g, 3, none⟩ d) g #[a, b, c, d, o4, o5, o6] := h3.set 3 d
 have h5 : Bx (((((W.setCell ⟨g, 0, none⟩ a).setCell ⟨g, 1, none⟩ b).setCell ⟨g, 2, none⟩ c).setCell ⟨g, 3, none⟩ d).setCell ⟨g, 4, none⟩ e) g #[a, b, c, d, e, o5, o6] := h4.set 4 e
 have h6 : Bx ((((((W.setCell ⟨g, 0, none⟩ a).setCell ⟨g, 1, none⟩ b).setCell ⟨g, 2, none⟩ c).setCell ⟨g, 3, none⟩ d).setCell ⟨g, 4, none⟩ e).setCell ⟨g, 5, none⟩ f) g #[a, b, c, d, e, f, o6] := h5.set 5 f
 exact h6.set 6 k
theorem keep7 {W : World} {g b : Nat} (hb : b ≠ g) (a0 a1 a2 a3 a4 a5 a6 : Value) : (((((((W.setCell ⟨g, 0, none⟩ a0).setCell ⟨g, 1, none⟩ a1).setCell ⟨g, 2, none⟩ a2).setCell ⟨g, 3, none⟩ a3).setCell ⟨g, 4, none⟩ a4).setCell ⟨g, 5, none⟩ a5).setCell ⟨g, 6, none⟩ a6).heap[b]? = W.heap[b]? := by
 iterate 7 refine (Below.heap_setCell _ _ _ b (by exact hb)).trans ?_
 rfl
theorem below7 {W w : World} {g : Nat} (h : Below g w W) (a0 a1 a2 a3 a4 a5 a6 : Value) : Below g w (((((((W.setCell ⟨g, 0, none⟩ a0).setCell ⟨g, 1, none⟩ a1).setCell ⟨g, 2, none⟩ a2).setCell ⟨g, 3, none⟩ a3).setCell ⟨g, 4, none⟩ a4).setCell ⟨g, 5, none⟩ a5).setCell ⟨g, 6, none⟩ a6) := by
 iterate 7 refine Below.setCell ?_ (by exact Nat.le_refl _) _
 exact h
end Go.Proofs.YtmhaahcbmdhinaaGreatDoor
namespace Go.Proofs.YtmhaahcbmdhinaaGreatDoor
open Go.RowKit
set_option maxRecDepth 100000
set_option linter.unusedVariables false
set_option linter.unusedSimpArgs false
def Cr.viewV (C : Cr) : Value := .agg #[.int .i64 C.role, .int .i64 C.leader, .int .i64 C.commit, .int .i64 C.round]
set_option maxHeartbeats 1600000 in
theorem view_any {fb p : Nat} {w : World} {V U : Nat → Prop} {C : Cr} {m : Mb} (h : CX fb w p V U C m) :
  Calls Tryz.prog 18 #[.pointer (some ⟨p, 0, none⟩)] w (fun e w' => e = .returned C.viewV ∧ Below w.heap.size w w') := by
 obtain ⟨W0, hW0⟩ : ∃ W0, W0 = w.alloc (.cells #[.int .i64 0, .int .i64 0, .int .i64 0, .int .i64 0] 57) := ⟨_, rfl⟩
 have hb0 : Below w.heap.size w W0 := by subst hW0; exact (Below.refl _ _).alloc (Nat.le_refl _) _
 have b0 : Bx W0 w.heap.size #[.int .i64 0, .int .i64 0, .int .i64 0, .int .i64 0] := by subst hW0; exact Bx.new _ _ _ rfl
 have hx := (h.below hb0).bx
 have c7 : W0.cell? ⟨p, 7, none⟩ = some (.int .i64 C.role) := hx.c 7
 have c8 : W0.cell? ⟨p, 8, none⟩ = some (.int .i64 C.leader) := hx.c 8
 have c9 : W0.cell? ⟨p, 9, none⟩ = some (.int .i64 C.commit) := hx.c 9
 have c10 : W0.cell? ⟨p, 10, none⟩ = some (.int .i64 C.round) := hx.c 10
 obtain ⟨r0, r1, r2, r3, f0, f1, f2, f3⟩ := b0.c4
 have HW := Lib.hid hW0
 have K := Lib.hid (And.intro hb0 b0)
 clear h hb0 b0 hW0 hx
 go_enter Tryz.func18, Tryz.ntmps18
 go_upto_region 1 with (fail)
 rw [← HW.out]
 go_wp2_with fail
 refine bodyPost_ret (by simp [results, Tryz.results18, go_sem, r0, r1, r2, r3]; rfl) rfl ?_
 exact ⟨rfl, bset4 K.out.1 (Nat.le_refl _) _ _ _ _⟩
set_option maxHeartbeats 3200000 in
theorem stored_any {fb p : Nat} {w : World} {V U : Nat → Prop} {C : Cr} {m : Mb} {k : Nat} (h : CX fb w p V U C m) (ho : C.Ok k) :
  Calls Tryz.prog 21 #[.pointer (some ⟨p, 0, none⟩)] w (StOwn w C.s) := by
 obtain ⟨W0, hW0⟩ : ∃ W0, W0 = w.alloc (.cells #[.int .i64 0, .int .i64 0, .int .i64 0, .int .i64 0, .slice none 0 0, .slice none 0 0, .slice none 0 0] 41) := ⟨_, rfl⟩
 have hb0 : Below w.heap.size w W0 := by subst hW0; exact (Below.refl _ _).alloc (Nat.le_refl _) _
 have b0 : Bx W0 w.heap.size #[.int .i64 0, .int .i64 0, .int .i64 0, .int .i64 0, .slice none 0 0, .slice none 0 0, .slice none 0 0] := by subst hW0; exact Bx.new _ _ _ rfl
 have hx := (h.below hb0)
 have hf := h.fit ho
 have how := sown_sv m.s W0 hx.at_ hf (h.lm ho.may)
 rw [h.st] at how
 have c0 : W0.cell? ⟨p, 0, none⟩ = some (.int .i64 m.s.tm) := hx.bx.c 0
 have c1 : W0.cell? ⟨p, 1, none⟩ = some (.int .i64 m.s.vt) := hx.bx.c 1
 have c2 : W0.cell? ⟨p, 2, none⟩ = some (.int .i64 m.s.b) := hx.bx.c 2
 have c3 : W0.cell? ⟨p, 3, none⟩ = some (.int .i64 m.s.t) := hx.bx.c 3
 have c4 : W0.cell? ⟨p, 4, none⟩ = some (.slice m.s.A m.s.n m.s.c) := hx.bx.c 4
 have c5 : W0.cell? ⟨p, 5, none⟩ = some (.slice m.s.C m.s.nc m.s.cc) := hx.bx.c 5
 have c6 : W0.cell? ⟨p, 6, none⟩ = some (.slice m.s.S m.s.ns m.s.cs) := hx.bx.c 6
 have HW := Lib.hid hW0
 have K := Lib.hid (And.intro hb0 b0)
 have How := Lib.hid how
 unfold Sv.val stA at How
 clear h ho hb0 b0 hW0 hx hf how
 go_enter Tryz.func21, Tryz.ntmps21
 go_upto_region 1 with (fail)
 rw [← HW.out]
 go_wp2_with fail
 refine How.out.mono ?_
 rintro e w1 ⟨s', rfl, a1, e1, hb1⟩
 have b1 := K.out.2.below hb1
 obtain ⟨r0, r1, r2, r3, r4, r5, r6⟩ := b1.c7
 have f0 := b1.f 0
 have f1 := b1.f 1
 have f2 := b1.f 2
 have f3 := b1.f 3
 have f4 := b1.f 4
 have f5 := b1.f 5
 have f6 := b1.f 6
 have A1 := Lib.hid (And.intro a1 (And.intro e1 (And.intro hb1 b1)))
 clear a1 e1 hb1 b1 c0 c1 c2 c3 c4 c5 c6
 unfold Sv.val stA
 go_wp2_with fail
 have hz0 : w.heap.size < W0.heap.size := K.out.2.lt
 obtain ⟨ty, hg⟩ := (A1.out.2.2.2.set7 (.int .i64 s'.tm) (.int .i64 s'.vt) (.int .i64 s'.b) (.int .i64 s'.t) (.slice s'.A s'.n s'.c) (.slice s'.C s'.nc s'.cc) (.slice s'.S s'.ns s'.cs)).hp
 refine bodyPost_ret (results_cell_row rfl _ _ w.heap.size _ _ (0, 0) _ rfl hg Tryz.underlying41 rfl (by kernel_rfl)) rfl ?_
 refine ⟨s', rfl, (A1.out.1.keep fun b hb _ => keep7 (by have h9 : W0.heap.size ≤ b := hb; omega) _ _ _ _ _ _ _).mono fun b hb => (by have h9 : W0.heap.size ≤ b := hb; omega : w.heap.size ≤ b), A1.out.2.1, ?_⟩
 exact K.out.1.trans ((below7 ((Below.refl w.heap.size W0).trans (A1.out.2.2.1.mono (by omega))) _ _ _ _ _ _ _))
end Go.Proofs.YtmhaahcbmdhinaaGreatDoor
