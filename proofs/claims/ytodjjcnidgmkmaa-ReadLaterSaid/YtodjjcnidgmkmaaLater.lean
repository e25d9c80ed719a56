/- Walk of tollbarlaw14.ReadLater. -/
import Derived.Test.YtodjjcnidgmkmaaSure
import Derived.Test.YtodjjcnidgmkmaaArith
import Derived.Deep.DeepCutAuto
namespace Go.Proofs.Ytodjjcnidgmkmaa
open Go.RowKit
set_option linter.unusedVariables false
set_option linter.unusedSimpArgs false
def takeLim (lim : Int) (l : List It) : Int := if quMay lim l then lim else 0
def takeL (p : It → Bool) (lim : Int) (l : List It) : List It := if quMay lim l then leftOf p l else []
def takeO (p : It → Bool) (lim : Int) (l : List It) : List Int := if quMay lim l then outOf p l else []
theorem takeO_length (p : It → Bool) (lim : Int) (l : List It) : (takeO p lim l).length ≤ l.length := by
  unfold takeO
  split
  · have := left_out_length p l; omega
  · simp
theorem takeO_later (t h a h' a' : Int) (h1 : h ≤ h') (h2 : a ≤ a') (lim : Int) (l : List It) : (takeO (isTake t h a) lim l).Sublist (takeO (isTake t h' a') lim l) := by
  unfold takeO
  split
  · exact take_later t h a h' a' h1 h2 l
  · exact List.Sublist.refl _
theorem take_any (lim : Int) (A : Option Addr) (n c : Nat) (l : List It) (t h a : Int) (w : World) {ok : Nat → Prop} (hr : Rd w ok 4 A n (flat itc l)) (hn : n ≤ 1000000) :
    Calls Try.prog 7 #[quA lim A n c, .int .i64 t, .int .i64 h, .int .i64 a] w (PartPost w (takeLim lim l) (takeL (isTake t h a) lim l) (takeO (isTake t h a) lim l)) := by
  refine take_good lim A n c l t h a w hr hn _ _ _ ?_
  unfold takeLim takeL takeO
  rcases Bool.eq_false_or_eq_true (quMay lim l) with hm | hm
  · left; simp [hm]
  · right; simp [hm]
theorem later_far (lim : Int) (A : Option Addr) (n c : Nat) (o0 o1 o2 b0 b1 : Int) (w : World) (h : decide (200 < (n : Int)) = true ∨ decide (200 < (n : Int)) = false ∧ decide (1125899906842624 < o1) = true ∨ decide (200 < (n : Int)) = false ∧ decide (1125899906842624 < o1) = false ∧ 1125899906842624 < o2) :
    Calls Try.prog 3 #[.agg #[.int .i64 lim, .slice A n c], .agg #[.int .i64 o0, .int .i64 o1, .int .i64 o2], .agg #[.int .i64 b0, .int .i64 b1]] w (YesPost w) := by
  rcases h with h | ⟨h, h2⟩ | ⟨h, h2, h3⟩
  all_goals
    go_enter Try.func3, Try.ntmps3
    go_wp2_with fail
    refine (sure_any _).mono ?_
    rintro e w4 ⟨rfl, hb4⟩
    go_wp2_with fail
    go_ret
    exact ⟨rfl, ((((Below.refl _ _).alloc (Nat.le_refl _) _).alloc (by simp) _).alloc (by simp; omega) _).trans (hb4.mono (by simp; omega))⟩
set_option maxRecDepth 100000 in
set_option maxHeartbeats 3200000 in
theorem later_walk (lim : Int) (A : Option Addr) (n c : Nat) (l : List It) (o0 o1 o2 b0 b1 : Int) (w : World) {ok : Nat → Prop} (hr : Rd w ok 4 A n (flat itc l)) (h1 : decide (200 < (n : Int)) = false) (h2 : decide (1125899906842624 < o1) = false) (h3 : decide (1125899906842624 < o2) = false) (i1 : I64 o1) (i2 : I64 o2) :
    Calls Try.prog 3 #[.agg #[.int .i64 lim, .slice A n c], .agg #[.int .i64 o0, .int .i64 o1, .int .i64 o2], .agg #[.int .i64 b0, .int .i64 b1]] w (YesPost w) := by
  have g1 : ¬ 200 < (n : Int) := of_decide_eq_false h1
  have g2 : ¬ 1125899906842624 < o1 := of_decide_eq_false h2
  have g3 : ¬ 1125899906842624 < o2 := of_decide_eq_false h3
  unfold I64 at i1 i2
  obtain ⟨K1, hK1, -, e1, e1'⟩ := uint_mod b0 9 9 rfl (by omega) (by omega)
  obtain ⟨K2, hK2, -, e2, e2'⟩ := uint_mod b1 9 9 rfl (by omega) (by omega)
  have f1 : IntKind.i64.wrap (o1 + K1) = o1 + K1 := IntWalk.i64_in _ (by omega)
  have f2 : IntKind.i64.wrap (o2 + K2) = o2 + K2 := IntWalk.i64_in _ (by omega)
  obtain ⟨W0, hW0⟩ : ∃ W0, W0 = ((w.alloc (.cells #[.int .i64 lim, .slice A n c] 24)).alloc (.cells #[.int .i64 o0, .int .i64 o1, .int .i64 o2] 25)).alloc (.cells #[.int .i64 b0, .int .i64 b1] 26) := ⟨_, rfl⟩
  have X0 : Bx W0 w.heap.size #[.int .i64 lim, .slice A n c] := by subst hW0; exact ((Bx.new _ _ _ rfl).alloc _).alloc _
  have X1 : Bx W0 (w.heap.size + 1) #[.int .i64 o0, .int .i64 o1, .int .i64 o2] := by subst hW0; exact (Bx.new _ _ _ (by simp)).alloc _
  have X2 : Bx W0 (w.heap.size + 2) #[.int .i64 b0, .int .i64 b1] := by subst hW0; exact Bx.new _ _ _ (by simp)
  have r0 : Rd W0 ok 4 A n (flat itc l) := by subst hW0; exact ((hr.alloc _).alloc _).alloc _
  have hbe : Below w.heap.size w W0 := by subst hW0; exact (((Below.refl _ _).alloc (Nat.le_refl _) _).alloc (by simp) _).alloc (by simp; omega) _
  have HW := Lib.hid hW0
  clear hW0
  go_enter Try.func3, Try.ntmps3
  have sof : ∀ W, Below W0.heap.size W0 W → (Below W0.heap.size W0 W ∧ W.cell? ⟨w.heap.size, 0, none⟩ = some (.int .i64 lim) ∧ W.cell? ⟨w.heap.size, 1, none⟩ = some (.slice A n c) ∧ W.cell? ⟨w.heap.size + 1, 0, none⟩ = some (.int .i64 o0) ∧ W.cell? ⟨w.heap.size + 1, 1, none⟩ = some (.int .i64 o1) ∧ W.cell? ⟨w.heap.size + 1, 2, none⟩ = some (.int .i64 o2) ∧ W.cell? ⟨w.heap.size + 1 + 1, 0, none⟩ = some (.int .i64 b0) ∧ W.cell? ⟨w.heap.size + 1 + 1, 1, none⟩ = some (.int .i64 b1)) := fun W hb => ⟨hb, (X0.below hb).c 0, (X0.below hb).c 1, (X1.below hb).c 0, (X1.below hb).c 1, (X1.below hb).c 2, (X2.below hb).c 0, (X2.below hb).c 1⟩
  go_upto_region 3 with (fail)
  rw [← HW.out]
  go_cut [7, 8] (fun s7 s8 W => ∃ B m d, s8 = .slice B m d ∧ Rd W (W0.heap.size ≤ ·) 1 B m (ii (takeO (isTake o0 o1 o2) lim l)) ∧ Below W0.heap.size W0 W)
  case first =>
    go_region_held3 (fun W => Below W0.heap.size W0 W ∧ W.cell? ⟨w.heap.size, 0, none⟩ = some (.int .i64 lim) ∧ W.cell? ⟨w.heap.size, 1, none⟩ = some (.slice A n c) ∧ W.cell? ⟨w.heap.size + 1, 0, none⟩ = some (.int .i64 o0) ∧ W.cell? ⟨w.heap.size + 1, 1, none⟩ = some (.int .i64 o1) ∧ W.cell? ⟨w.heap.size + 1, 2, none⟩ = some (.int .i64 o2) ∧ W.cell? ⟨w.heap.size + 1 + 1, 0, none⟩ = some (.int .i64 b0) ∧ W.cell? ⟨w.heap.size + 1 + 1, 1, none⟩ = some (.int .i64 b1)) ((refine sof _ ?_; first | exact (Below.refl _ _).drew | (go_split_ands; exact Below.trans (by assumption) (Below.mono (by assumption) (Below.size (by assumption)))) | (go_split_ands; exact Below.alloc (by assumption) (Below.size (by assumption)) _) | (go_split_ands; exact below_realloc (by assumption) z2b z2b _) | (go_split_ands; refine Below.setCell ?_ (by first | exact Nat.le_refl _ | exact z1b | exact z2b) _; refine Below.setCell ?_ (by first | exact Nat.le_refl _ | exact z1b | exact z2b) _; assumption))) (first
      | (go_at_call 8; refine (give_any lim A n c l _ (r0.below (by go_split_ands; assumption)) (by omega)).mono ?_; rintro e w1 ⟨A1, n1, c1, rfl, r1, hb1⟩; have z1b : W0.heap.size ≤ w1.heap.size := Nat.le_trans (Below.size (by go_split_ands; assumption)) hb1.size; try (have X7 := ((Bx.new W0 #[.int .i64 0, .slice none 0 0] 30 rfl).drew.below hb1)))
      | (go_at_call 7; refine (take_any lim A1 n1 c1 l o0 o1 o2 _ (by first | exact r1 | exact r1.alloc _) (by have := r1.flen itc_len (by omega); have := (r0.flen itc_len (by omega)); omega)).mono ?_; rintro e w2 ⟨A2, n2, c2, B2, m2, d2, rfl, _, r2, hb2⟩; unfold quA; have z2b : W0.heap.size ≤ w2.heap.size := Nat.le_trans (Below.size (by go_split_ands; assumption)) hb2.size; first | (have X8 := X7.below hb2; obtain ⟨x8, x9, x8f, x9f⟩ := X8.c2) | (have X8 := (Bx.new w1 #[.int .i64 0, .slice none 0 0] 30 rfl).below hb2; obtain ⟨x8, x9, x8f, x9f⟩ := X8.c2) | (have hcc : Below w1.heap.size w1 w2 := hb2)))
    all_goals
      go_wp2_with fail
      go_meet
      case rel =>
        refine ⟨B2, m2, d2, rfl, ?_, by go_split_ands; assumption⟩
        first
          | exact (r2.mono (fun b hb => by omega)).alloc _
          | (refine ((r2.setCell ?_ _).setCell ?_ _).mono ?_
             · show ¬ _ ≤ w1.heap.size; simp
             · show ¬ _ ≤ w1.heap.size; simp
             · intro b hb; simp at hb; omega)
          | (refine ((r2.setCell ?_ _).setCell ?_ _).mono ?_
             · show ¬ w1.heap.size ≤ W0.heap.size; have := hb1.size; simp at this; omega
             · show ¬ w1.heap.size ≤ W0.heap.size; have := hb1.size; simp at this; omega
             · intro b hb; omega)
  case rest =>
    obtain ⟨B8, m8, d8, rfl, r8, hbc⟩ := hcut
    replace X0 := X0.below hbc
    replace X1 := X1.below hbc
    replace X2 := X2.below hbc
    replace r0 := r0.below hbc
    replace hbe := hbe.trans (hbc.mono hbe.size)
    have v1 : IntKind.i64.wrap (K1 : Int) = K1 := IntWalk.i64_in _ (by omega)
    have v2 : IntKind.i64.wrap (K2 : Int) = K2 := IntWalk.i64_in _ (by omega)
    clear sof hbc HW
    have sof : ∀ W, Below wc.heap.size wc W → (Below wc.heap.size wc W ∧ W.cell? ⟨w.heap.size, 0, none⟩ = some (.int .i64 lim) ∧ W.cell? ⟨w.heap.size, 1, none⟩ = some (.slice A n c) ∧ W.cell? ⟨w.heap.size + 1, 0, none⟩ = some (.int .i64 o0) ∧ W.cell? ⟨w.heap.size + 1, 1, none⟩ = some (.int .i64 o1) ∧ W.cell? ⟨w.heap.size + 1, 2, none⟩ = some (.int .i64 o2) ∧ W.cell? ⟨w.heap.size + 1 + 1, 0, none⟩ = some (.int .i64 b0) ∧ W.cell? ⟨w.heap.size + 1 + 1, 1, none⟩ = some (.int .i64 b1)) := fun W hb => ⟨hb, (X0.below hb).c 0, (X0.below hb).c 1, (X1.below hb).c 0, (X1.below hb).c 1, (X1.below hb).c 2, (X2.below hb).c 0, (X2.below hb).c 1⟩
    go_upto_region 4 with (fail)
    go_cut [9, 10] (fun s9 s10 W => ∃ B m d, s10 = .slice B m d ∧ Rd W (wc.heap.size ≤ ·) 1 B m (ii (takeO (isTake o0 (o1 + K1) (o2 + K2)) lim l)) ∧ Below wc.heap.size wc W)
    case first =>
      go_region_held3 (fun W => Below wc.heap.size wc W ∧ W.cell? ⟨w.heap.size, 0, none⟩ = some (.int .i64 lim) ∧ W.cell? ⟨w.heap.size, 1, none⟩ = some (.slice A n c) ∧ W.cell? ⟨w.heap.size + 1, 0, none⟩ = some (.int .i64 o0) ∧ W.cell? ⟨w.heap.size + 1, 1, none⟩ = some (.int .i64 o1) ∧ W.cell? ⟨w.heap.size + 1, 2, none⟩ = some (.int .i64 o2) ∧ W.cell? ⟨w.heap.size + 1 + 1, 0, none⟩ = some (.int .i64 b0) ∧ W.cell? ⟨w.heap.size + 1 + 1, 1, none⟩ = some (.int .i64 b1)) ((refine sof _ ?_; first | exact (Below.refl _ _).drew | (go_split_ands; exact Below.trans (by assumption) (Below.mono (by assumption) (Below.size (by assumption)))) | (go_split_ands; exact Below.alloc (by assumption) (Below.size (by assumption)) _) | (go_split_ands; exact below_realloc (by assumption) z2b z2b _) | (go_split_ands; refine Below.setCell ?_ (by first | exact Nat.le_refl _ | exact z1b | exact z2b) _; refine Below.setCell ?_ (by first | exact Nat.le_refl _ | exact z1b | exact z2b) _; assumption))) (first
        | (go_at_call 8; refine (give_any lim A n c l _ (r0.below (by go_split_ands; assumption)) (by omega)).mono ?_; rintro e w1 ⟨A1, n1, c1, rfl, r1, hb1⟩; have z1b : wc.heap.size ≤ w1.heap.size := Nat.le_trans (Below.size (by go_split_ands; assumption)) hb1.size; try (have X7 := ((Bx.new wc #[.int .i64 0, .slice none 0 0] 30 rfl).drew.below hb1)))
        | (go_at_call 7; refine (take_any lim A1 n1 c1 l o0 (o1 + K1) (o2 + K2) _ (by first | exact r1 | exact r1.alloc _) (by have := r1.flen itc_len (by omega); have := (r0.flen itc_len (by omega)); omega)).mono ?_; rintro e w2 ⟨A2, n2, c2, B2, m2, d2, rfl, _, r2, hb2⟩; unfold quA; have z2b : wc.heap.size ≤ w2.heap.size := Nat.le_trans (Below.size (by go_split_ands; assumption)) hb2.size; first | (have X8 := X7.below hb2; obtain ⟨x8, x9, x8f, x9f⟩ := X8.c2) | (have X8 := (Bx.new w1 #[.int .i64 0, .slice none 0 0] 30 rfl).below hb2; obtain ⟨x8, x9, x8f, x9f⟩ := X8.c2) | (have hcc : Below w1.heap.size w1 w2 := hb2)))
      all_goals
        go_wp2_with fail
        go_meet
        case rel =>
          refine ⟨B2, m2, d2, rfl, ?_, by go_split_ands; assumption⟩
          first
            | exact (r2.mono (fun b hb => by omega)).alloc _
            | (refine ((r2.setCell ?_ _).setCell ?_ _).mono ?_
               · show ¬ _ ≤ w1.heap.size; simp
               · show ¬ _ ≤ w1.heap.size; simp
               · intro b hb; simp at hb; omega)
            | (refine ((r2.setCell ?_ _).setCell ?_ _).mono ?_
               · show ¬ w1.heap.size ≤ wc.heap.size; have := hb1.size; simp at this; omega
               · show ¬ w1.heap.size ≤ wc.heap.size; have := hb1.size; simp at this; omega
               · intro b hb; omega)

    case rest =>
      obtain ⟨B10, m10, d10, rfl, r10, hbd⟩ := hcut
      replace r8 := r8.below hbd
      replace hbe := hbe.trans (hbd.mono hbe.size)
      have hsub := takeO_later o0 o1 o2 (o1 + K1) (o2 + K2) (by omega) (by omega) lim l
      have l8 := ii_len r8
      have l10 := ii_len r10
      have s8 := takeO_length (isTake o0 o1 o2) lim l
      have s10 := takeO_length (isTake o0 (o1 + K1) (o2 + K2)) lim l
      have hln := r0.flen itc_len (by omega)
      have q8 : m8 ≤ 200 := by omega
      have q10 : m10 ≤ 200 := by omega
      generalize takeO (isTake o0 o1 o2) lim l = us at r8 l8 hsub
      generalize takeO (isTake o0 (o1 + K1) (o2 + K2)) lim l = vs at r10 l10 hsub
      have Hsub := Lib.hid hsub
      have H8 := Lib.hid l8
      have H10 := Lib.hid l10
      clear hsub l8 l10 s8 s10 hln sof X0 X1 X2 r0 e1 e1' e2 e2' f1 f2 v1 v2 hbd
      go_wp2_with fail
      go_loopg [11, 12] (m10 + 1) (fun k s11 s12 wr => ∃ i j : Nat, k = m10 + 1 - i ∧ i ≤ m10 ∧ j ≤ m8 ∧ s12 = .int .i64 i ∧ s11 = .int .i64 j ∧ (us.drop j).Sublist (vs.drop i) ∧ Below wc.heap.size wc wr)
      case atStart => exact ⟨0, 0, by omega, by omega, by omega, rfl, rfl, by simpa using Hsub.out, Below.refl _ _⟩
      case round =>
        obtain ⟨i, j, hk, hi, hj, rfl, rfl, hsl, hb⟩ := hrel
        have Hk := Lib.hid hk
        have Hsl := Lib.hid hsl
        clear hk hsl
        by_cases hin : i < m10
        · by_cases hjn : j < m8
          · obtain ⟨q1, p1, z1, rfl, lf1, lf2, hz1, hc1⟩ := ii_cell (r8.below hb) hjn
            obtain ⟨q2, p2, z2, rfl, lf3, lf4, hz2, hc2⟩ := ii_cell (r10.below hb) hin
            have Hz1 := Lib.hid hz1
            have Hz2 := Lib.hid hz2
            clear lf1 lf2 lf3 lf4 hz1 hz2
            have n1 : (i : Int) < m10 := by omega
            have n2 : (j : Int) < m8 := by omega
            have n3 : (0 : Int) ≤ i := by omega
            have n4 : (0 : Int) ≤ j := by omega
            have e1 : us.drop j = z1 :: us.drop (j + 1) := by
              have := List.getElem?_eq_some_iff.1 Hz1.out
              obtain ⟨h1, h2⟩ := this
              rw [List.drop_eq_getElem_cons h1, h2]
            have e2 : vs.drop i = z2 :: vs.drop (i + 1) := by
              have := List.getElem?_eq_some_iff.1 Hz2.out
              obtain ⟨h1, h2⟩ := this
              rw [List.drop_eq_getElem_cons h1, h2]
            by_cases hzz : z2 = z1
            · have hs : (us.drop (j + 1)).Sublist (vs.drop (i + 1)) := by
                have := Hsl.out
                rw [e1, e2, hzz] at this
                exact greedy_hit this
              have Hs := Lib.hid hs
              subst hzz
              clear hs e1 e2
              go_wp2_with fail
              go_region
              all_goals
                go_wp2_with fail
                go_roundg (m10 + 1 - (i + 1))
                case measure => have := Hk.out; omega
                case rel => exact ⟨i + 1, j + 1, rfl, by omega, by omega, by go_num, by go_num, Hs.out, hb.drew⟩
            · have hs : (us.drop j).Sublist (vs.drop (i + 1)) := by
                have := Hsl.out
                rw [e1, e2] at this
                rw [e1]
                exact greedy_miss this hzz
              have Hs := Lib.hid hs
              have hzf : (z2 == z1) = false := by simpa using hzz
              clear hs e1 e2 hzz
              go_wp2_with fail
              go_region
              all_goals
                go_wp2_with fail
                go_roundg (m10 + 1 - (i + 1))
                case measure => have := Hk.out; omega
                case rel => exact ⟨i + 1, j, rfl, by omega, by omega, by go_num, rfl, Hs.out, hb.drew⟩
          · obtain rfl : j = m8 := by omega
            go_wp2_with fail
            refine (sure_any _).mono ?_
            rintro e w4 ⟨rfl, hb4⟩
            go_wp2_with fail
            go_ret
            exact ⟨rfl, (hbe.trans (hb.mono hbe.size)).trans (hb4.mono (hbe.trans (hb.mono hbe.size)).size)⟩
        · have hjm : j = m8 := by
            have h1 := Hsl.out
            have h2 : vs.drop i = [] := List.drop_of_length_le (by rw [H10.out]; omega)
            rw [h2] at h1
            have h3 := List.sublist_nil.1 h1
            have h4 := congrArg List.length h3
            rw [List.length_drop, H8.out] at h4
            simp at h4
            omega
          subst hjm
          obtain rfl : i = m10 := by omega
          go_wp2_with fail
          refine (sure_any _).mono ?_
          rintro e w4 ⟨rfl, hb4⟩
          go_wp2_with fail
          go_ret
          exact ⟨rfl, (hbe.trans (hb.mono hbe.size)).trans (hb4.mono (hbe.trans (hb.mono hbe.size)).size)⟩
end Go.Proofs.Ytodjjcnidgmkmaa
