/- Walk: (*group).deed of the law: entries are let go
   Walk: (*group).deed of the law: a member begins again
   Walk: (*group).deed of the law: time goes on for all, and all is heard
   Walk: (*group).deed of the law, whole.
   The law's deeds as they come in, and arrays of seven.
   Walk: tollbarlaw13.sure. -/
import Derived.Test.YtmhaahcbmdhinaaGreatDoorZM35
import Derived.Test.YtmhaahcbmdhinaaGreatDoorZM33
import Derived.Test.YtmhaahcbmdhinaaGreatDoorZM36
namespace Go.Proofs.YtmhaahcbmdhinaaGreatDoor
open Go.RowKit
set_option maxRecDepth 100000
set_option linter.unusedVariables false
set_option linter.unusedSimpArgs false
set_option maxHeartbeats 12800000 in
theorem deed_lets {fb n gb : Nat} {span : Int} {p : Nat → Nat} {w : World} {g : Gs} {F : Nat → Prop} {k : Nat} (kd who N draw : Int) (h : GrIs fb w n gb span p g F) (ho : GOk n k g) (hk : k + 60 ≤ 1000000) (hn : 1 ≤ n ∧ n ≤ 7) (hdl : ∀ k, k < 7 → (g.done k).length ≤ 1000000) (hkd : (IntKind.u64.wrap kd).tmod 17 = 14) :
  Calls Tryz.prog 30 #[.pointer (some ⟨gb, 0, none⟩), .int .i64 (n : Int), .agg #[.int .i64 kd, .int .i64 who, .int .i64 N, .int .i64 draw]] w (DeedPost fb w n gb span F (k + 60) (Does n g)) := by
 obtain ⟨q, hq, wn, ht, wq⟩ := umod_n who (n := n) (by omega) (by omega)
 obtain ⟨W0, hW0⟩ : ∃ W0, W0 = w.alloc (.cells (dcells kd who N draw) 92) := ⟨_, rfl⟩
 have z0 : Bx W0 w.heap.size (dcells kd who N draw) := by subst hW0; exact Bx.new _ _ _ rfl
 have b0 : Below w.heap.size w W0 := by subst hW0; exact (Below.refl _ _).alloc (Nat.le_refl _) _
 have g0 : GrIs fb W0 n gb span p g (fun b => F b ∨ b = w.heap.size) := h.more_f (by omega) b0 fun b hb => hb.imp_right fun e => by have := z0.lt; omega
 have kf0 : KeepF F w W0 := KeepF.of_below b0 h.fin
 have F0 : Hid (∀ W, Kept (fun b => b ≠ gb ∧ b ≠ w.heap.size) W0 W → W.cell? ⟨gb, q, none⟩ = some (.pointer (some ⟨p q, 0, none⟩))) := Lib.hid fun W hb => by
  have hl := World.block_lt_of_cell? W0 _ (g0.ptr hq hn.2)
  have h9 := g0.ptr hq hn.2
  unfold World.cell? at h9 ⊢
  rw [hb.block gb hl (fun e => e.1 rfl)]
  exact h9
 have c0 := g0.ptr hq hn.2
 obtain ⟨d0, d1, d2, d3⟩ := z0.d4
 have hq0 : (0 : Int) ≤ (q : Int) := by omega
 have hq7 : (q : Int) < 7 := by omega
 have H := Lib.hid (And.intro g0 (And.intro kf0 (And.intro z0 (And.intro ho (And.intro hk (And.intro hn hq))))))
 have HW0 := hW0
 unfold dcells at HW0
 clear z0 b0 g0 kf0 h hW0 F0
 go_enter Tryz.func30, Tryz.ntmps30
 go_upto_region 1 with (fail)
 rw [← HW0]
 clear HW0
 go_wp2_with fail
 refine (gview_any H.out.1 H.out.2.2.2.2.2.2).mono ?_
 rintro e w1 ⟨rfl, b1⟩
 unfold Cr.viewV
 go_upto_region 31 with (fail)
 obtain ⟨W2, hW2⟩ : ∃ W2, W2 = w1.alloc (.cells #[.int .i64 (g.C q).role, .int .i64 (g.C q).leader, .int .i64 (g.C q).commit, .int .i64 (g.C q).round] 57) := ⟨_, rfl⟩
 have z2 : Bx W2 w1.heap.size #[.int .i64 (g.C q).role, .int .i64 (g.C q).leader, .int .i64 (g.C q).commit, .int .i64 (g.C q).round] := by subst hW2; exact Bx.new _ _ _ rfl
 have b2 : Below W0.heap.size W0 W2 := by subst hW2; exact b1.alloc b1.size _
 rw [← hW2]
 clear hW2
 obtain ⟨ix, hix⟩ : ∃ ix, ix = (g.C q).commit := ⟨_, rfl⟩
 rw [← hix] at z2
 have B2 := Lib.hid (And.intro z2 (And.intro b2 hix))
 clear z2 b2 hix b1
 have F8 : Hid (∀ W, Below W2.heap.size W2 W → W.cell? ⟨w1.heap.size, 2, none⟩ = some (.int .i64 ix)) := Lib.hid fun W hb => (B2.out.1.below hb).c 2
 refine wp_region_S 8 (fun W => Below W2.heap.size W2 W) (.take 0 (.take 1 (.take 2 (.take 3 (.take 4 (.take 5 (.take 6 (.one 7 (.one 8 (.nil)))))))))) (by kernel_rfl) (Below.refl _ _).drew (fun _ _ _ _ h => h) (fun hS => ?_)
 repeat (first
  | (refine wpS_take (v := ?_) rfl rfl (by rfl) ?_ ?_; rotate_left; (intro W hW; have hf := F8.out W hW; go_split_ands; go_simp; try with_reducible rfl); try simp only [Act.put, lyA, lyB, lyC])
  | (refine wpS_skip rfl rfl (by rfl) ?_; try simp only [Act.put, lyA, lyB, lyC]))

 refine wpS_one rfl (by rfl) (fun K hK => ?_)
 go_simp
 go_at_call 77
 have g2 := H.out.1.below B2.out.2.1
 have g3 := g2.below hS
 obtain ⟨cells, A, m, c, L, h1, h2, h3, h4, h5, h6⟩ := g3.row (q := q) (by have := H.out.2.2.2.2.2.1; omega)
 refine (text_any gb q ix cells A m c L _ h1 h2 (by omega) h3 h4 (by have := hdl q (by omega); rw [← h5, List.length_map] at this; omega)).mono ?_
 rintro e w3 ⟨A3, n3, c3, rfl, o3, b3⟩
 rw [h5] at o3
 have T3 := Lib.hid (And.intro o3 (And.intro b3 (And.intro g3 (own_cp o3))))
 have b4 : Below W2.heap.size W2 w3 := hS.trans b3
 refine hK (fun W => Below W2.heap.size W2 W) _ _ (fun _ h => h) b4 ?_
 have B4 := Lib.hid b4
 clear hK K o3 b3 b4 h1 h2 h3 h4 h5 h6 g2 g3 hS
 try simp only [Act.put, lyA, lyB, lyC]
 refine wpS_last rfl (by rfl) (fun K hK => ?_)
 go_simp
 go_at_call 76
 have g4 := T3.out.2.2.1.more_f (F' := fun b => (F b ∨ b = w.heap.size) ∨ (W2.heap.size ≤ b ∧ b < w3.heap.size)) (by have := H.out.2.2.2.2.2.1; omega) T3.out.2.1 fun b hb => hb
 have r4 : Rd w3 (fun b => W2.heap.size ≤ b ∧ b < w3.heap.size) 1 A3 n3 (bs (textB (g.done q) ix)) := (Rd.of_own T3.out.1).lt (by omega)
 refine (gcomp_any g4 H.out.2.2.2.2.2.2 (H.out.2.2.2.1 q H.out.2.2.2.2.2.2) ix A3 n3 c3 _ r4 (fun b hb => .inr hb) T3.out.2.2.2).mono ?_
 rintro e w5 ⟨rfl, g5, k5⟩
 refine hK _ _ ?_
 have G5 := Lib.hid (And.intro g5 k5)
 clear hK K g4 r4 g5 k5
 try simp only [Act.put, lyA, lyB, lyC]
 refine wpS_nil ?_
 go_wp2_with fail
 refine bodyPost_end (results_none rfl _ _ _) (by rfl) ?_
 refine ⟨rfl, g.letsGo q ix (textB (g.done q) ix), p, G5.out.1.less_f fun b hb => .inl (.inl hb), (H.out.2.2.2.1.letsGo H.out.2.2.2.2.2.2 ix _).mono (by omega) (by have := H.out.2.2.2.2.1; omega), ?_, H.out.2.1.trans (((KeepF.of_below B2.out.2.1 H.out.1.fin).mono fun b hb => .inl hb).trans (((KeepF.of_below B4.out (H.out.1.below B2.out.2.1).fin).mono fun b hb => .inl hb).trans (G5.out.2.mono fun b hb => .inl (.inl hb))))⟩
 rw [B2.out.2.2]
 exact .letsGo g q H.out.2.2.2.2.2.2 ⟨k, H.out.2.2.2.1 q H.out.2.2.2.2.2.2⟩
set_option maxHeartbeats 12800000 in
theorem deed_again {fb n gb : Nat} {span : Int} {p : Nat → Nat} {w : World} {g : Gs} {F : Nat → Prop} {k : Nat} (kd who N draw : Int) (h : GrIs fb w n gb span p g F) (ho : GOk n k g) (hk : k + 60 ≤ 1000000) (hn : 1 ≤ n ∧ n ≤ 7) (hsp : 2 ≤ span ∧ span ≤ 1000) (hkd : (IntKind.u64.wrap kd).tmod 17 = 15) :
  Calls Tryz.prog 30 #[.pointer (some ⟨gb, 0, none⟩), .int .i64 (n : Int), .agg #[.int .i64 kd, .int .i64 who, .int .i64 N, .int .i64 draw]] w (DeedPost fb w n gb span F (k + 60) (fun g' => ∃ who draw, who < n ∧ g' = g.again who span draw)) := by
 obtain ⟨q, hq, wn, ht, wq⟩ := umod_n who (n := n) (by omega) (by omega)
 obtain ⟨W0, hW0⟩ : ∃ W0, W0 = w.alloc (.cells (dcells kd who N draw) 92) := ⟨_, rfl⟩
 have z0 : Bx W0 w.heap.size (dcells kd who N draw) := by subst hW0; exact Bx.new _ _ _ rfl
 have b0 : Below w.heap.size w W0 := by subst hW0; exact (Below.refl _ _).alloc (Nat.le_refl _) _
 have g0 : GrIs fb W0 n gb span p g (fun b => F b ∨ b = w.heap.size) := h.more_f (by omega) b0 fun b hb => hb.imp_right fun e => by have := z0.lt; omega
 have kf0 : KeepF F w W0 := KeepF.of_below b0 h.fin
 have F0 : Hid (∀ W, Kept (fun b => b ≠ gb ∧ b ≠ w.heap.size) W0 W → W.cell? ⟨gb, q, none⟩ = some (.pointer (some ⟨p q, 0, none⟩))) := Lib.hid fun W hb => by
  have hl := World.block_lt_of_cell? W0 _ (g0.ptr hq hn.2)
  have h9 := g0.ptr hq hn.2
  unfold World.cell? at h9 ⊢
  rw [hb.block gb hl (fun e => e.1 rfl)]
  exact h9
 have c0 := g0.ptr hq hn.2
 obtain ⟨d0, d1, d2, d3⟩ := z0.d4
 have hq0 : (0 : Int) ≤ (q : Int) := by omega
 have hq7 : (q : Int) < 7 := by omega
 have H := Lib.hid (And.intro g0 (And.intro kf0 (And.intro z0 (And.intro ho (And.intro hk (And.intro hn hq))))))
 have HW0 := hW0
 unfold dcells at HW0
 clear z0 b0 g0 kf0 h hW0 F0
 go_enter Tryz.func30, Tryz.ntmps30
 go_upto_region 1 with (fail)
 rw [← HW0]
 clear HW0
 go_upto_region 33 with (fail)
 have csp := H.out.1.spn
 have hqI : IntKind.i64.wrap ((q : Int) + 1) = (q : Int) + 1 := by rw [IntKind.wrap_i64]; omega
 have F8 : Hid (∀ W, Below W0.heap.size W0 W → W.cell? ⟨w.heap.size, 3, none⟩ = some (.int .i64 draw) ∧ W.cell? ⟨gb, 7, none⟩ = some (.int .i64 span)) := Lib.hid fun W hb => ⟨(H.out.2.2.1.below hb).d4.2.2.2, (H.out.1.below hb).spn⟩
 refine wp_region_S 15 (fun W => Below W0.heap.size W0 W) (.take 0 (.take 1 (.take 2 (.take 3 (.take 4 (.take 5 (.take 6 (.take 8 (.take 9 (.one 7 (.one 10 (.take 11 (.take 12 (.take 13 (.take 14 (.one 15 (.nil))))))))))))))))) (by kernel_rfl) (Below.refl _ _).drew (fun _ _ _ _ h => h) (fun hS => ?_)
 repeat (first
  | (refine wpS_take (v := ?_) rfl rfl (by rfl) ?_ ?_; rotate_left; (intro W hW; have hf := F8.out W hW; go_split_ands; go_simp; try with_reducible rfl); try simp only [Act.put, lyA, lyB, lyC])
  | (refine wpS_skip rfl rfl (by rfl) ?_; try simp only [Act.put, lyA, lyB, lyC]))

 refine wpS_one rfl (by rfl) (fun K hK => ?_)
 go_simp
 go_at_call 21
 refine (gstored_any (H.out.1.below hS) H.out.2.2.2.2.2.2 (H.out.2.2.2.1 q H.out.2.2.2.2.2.2)).mono ?_
 rintro e w3 ⟨s', rfl, ha, hs, b3⟩
 have b4 : Below W0.heap.size W0 w3 := hS.trans b3
 have S3 := Lib.hid (And.intro ha (And.intro hs (And.intro b4 (gstored_fit H.out.1 H.out.2.2.2.2.2.2 (H.out.2.2.2.1 q H.out.2.2.2.2.2.2) ha hs))))
 refine hK (fun W => Below W0.heap.size W0 W) _ _ (fun _ h => h) b4 ?_
 clear hK K hS ha hs b3 b4
 try simp only [Act.put, lyA, lyB, lyC]
 refine wpS_one rfl (by rfl) (fun K hK => ?_)
 go_simp
 go_at_call 12
 refine (new_ok ((q : Int) + 1) span draw s' w3 S3.out.1 S3.out.2.2.2 (H.out.1.below S3.out.2.2.1).env.ev (by omega) (by have := H.out.2.2.2.2.2; omega) hsp.1 hsp.2).mono ?_
 intro e w4 h4
 unfold NewPost at h4
 rw [S3.out.2.1, if_pos (H.out.2.2.2.1 q H.out.2.2.2.2.2.2).may] at h4
 obtain ⟨x, s4, rfl, n1, n2, n3, n4, n5, n6⟩ := h4
 have N4 := Lib.hid (And.intro n1 (And.intro n2 (And.intro n3 (And.intro n4 (And.intro n5 n6)))))
 refine hK (fun W => Below W0.heap.size W0 W) _ _ (fun _ h => h) (S3.out.2.2.1.trans (n6.mono S3.out.2.2.1.size)) ?_
 clear hK K n1 n2 n3 n4 n5 n6
 try simp only [Act.put, lyA, lyB, lyC]
 repeat (first
  | (refine wpS_take (v := ?_) rfl rfl (by rfl) ?_ ?_; rotate_left; (intro W hW; have hf := F8.out W hW; go_split_ands; go_simp; try with_reducible rfl); try simp only [Act.put, lyA, lyB, lyC])
  | (refine wpS_skip rfl rfl (by rfl) ?_; try simp only [Act.put, lyA, lyB, lyC]))
 refine wpS_last rfl (by rfl) (fun K hK => ?_)
 go_simp
 refine hK _ _ ?_
 clear hK K
 try simp only [Act.put, lyA, lyB, lyC]
 refine wpS_nil ?_
 have cgq := (H.out.1.below (S3.out.2.2.1.trans (N4.out.2.2.2.2.2.mono S3.out.2.2.1.size))).ptr H.out.2.2.2.2.2.2 hn.2
 have fgq : w4.frozen? ⟨gb, q, none⟩ = false := by
  obtain ⟨cells, A, m, c, L, h1, _⟩ := (H.out.1.below (S3.out.2.2.1.trans (N4.out.2.2.2.2.2.mono S3.out.2.2.1.size))).row (q := q) (by omega)
  exact h1.f q
 go_wp2_with fail
 have hsw := (H.out.1.below S3.out.2.2.1).swap hn.2 H.out.2.2.2.2.2.2 N4.out.2.2.2.2.2 N4.out.1 N4.out.2.1 N4.out.2.2.1 N4.out.2.2.2.1 N4.out.2.2.2.2.1
 refine bodyPost_end (results_none rfl _ _ _) (by rfl) ?_
 exact ⟨rfl, g.again q span draw, _, hsw.1.less_f fun b hb => .inl hb, (H.out.2.2.2.1.again H.out.2.2.2.2.2.2 (by omega) hsp draw).mono (by omega) (by have := H.out.2.2.2.2.1; omega), ⟨q, draw, H.out.2.2.2.2.2.2, rfl⟩, H.out.2.1.trans (((KeepF.of_below S3.out.2.2.1 H.out.1.fin).trans hsw.2) |>.mono fun b hb => .inl hb)⟩
set_option maxHeartbeats 12800000 in
theorem deed_all {fb n gb : Nat} {span : Int} {p : Nat → Nat} {w : World} {g : Gs} {F : Nat → Prop} {k : Nat} (kd who N draw : Int) (h : GrIs fb w n gb span p g F) (ho : GOk n k g) (hk : k + 60 ≤ 1000000) (hn : 1 ≤ n ∧ n ≤ 7) (hkd : (IntKind.u64.wrap kd).tmod 17 = 16) :
  Calls Tryz.prog 30 #[.pointer (some ⟨gb, 0, none⟩), .int .i64 (n : Int), .agg #[.int .i64 kd, .int .i64 who, .int .i64 N, .int .i64 draw]] w (DeedPost fb w n gb span F (k + 60) (Does n g)) := by
 obtain ⟨q, hq, wn, ht, wq⟩ := umod_n who (n := n) (by omega) (by omega)
 obtain ⟨W0, hW0⟩ : ∃ W0, W0 = w.alloc (.cells (dcells kd who N draw) 92) := ⟨_, rfl⟩
 have z0 : Bx W0 w.heap.size (dcells kd who N draw) := by subst hW0; exact Bx.new _ _ _ rfl
 have b0 : Below w.heap.size w W0 := by subst hW0; exact (Below.refl _ _).alloc (Nat.le_refl _) _
 have g0 : GrIs fb W0 n gb span p g (fun b => F b ∨ b = w.heap.size) := h.more_f (by omega) b0 fun b hb => hb.imp_right fun e => by have := z0.lt; omega
 have kf0 : KeepF F w W0 := KeepF.of_below b0 h.fin
 have F0 : Hid (∀ W, Kept (fun b => b ≠ gb ∧ b ≠ w.heap.size) W0 W → W.cell? ⟨gb, q, none⟩ = some (.pointer (some ⟨p q, 0, none⟩))) := Lib.hid fun W hb => by
  have hl := World.block_lt_of_cell? W0 _ (g0.ptr hq hn.2)
  have h9 := g0.ptr hq hn.2
  unfold World.cell? at h9 ⊢
  rw [hb.block gb hl (fun e => e.1 rfl)]
  exact h9
 have c0 := g0.ptr hq hn.2
 obtain ⟨d0, d1, d2, d3⟩ := z0.d4
 have hq0 : (0 : Int) ≤ (q : Int) := by omega
 have hq7 : (q : Int) < 7 := by omega
 have H := Lib.hid (And.intro g0 (And.intro kf0 (And.intro z0 (And.intro ho (And.intro hk (And.intro hn hq))))))
 have HW0 := hW0
 unfold dcells at HW0
 clear z0 b0 g0 kf0 h hW0 F0
 go_enter Tryz.func30, Tryz.ntmps30
 go_upto_region 1 with (fail)
 rw [← HW0]
 clear HW0
 go_wp2_with fail
 go_loopg [22] n (fun gm s22 wr => ∃ (j : Nat) (g1 : Gs), gm = n - j ∧ j ≤ n ∧ s22 = .int .i64 j ∧ GrIs fb wr n gb span p g1 (fun b => F b ∨ b = w.heap.size) ∧ GOk n k g1 ∧ Does n g g1 ∧ KeepF (fun b => F b ∨ b = w.heap.size) W0 wr)
 case atStart => exact ⟨0, g, by omega, by omega, rfl, H.out.1, H.out.2.2.2.1, .refl g, .refl _ _⟩
 case round =>
  obtain ⟨j, g1, hm, hj, rfl, hgr, hok, hdo, hkf⟩ := hrel
  have R := Lib.hid (And.intro hm (And.intro hgr (And.intro hok (And.intro hdo hkf))))
  clear hm hgr hok hdo hkf c0 d0 d1 d2 d3
  by_cases hlt : j < n
  ·have hjI : decide ((j : Int) < (n : Int)) = true := decide_eq_true (by omega)
   have hjN : decide (j < n) = true := decide_eq_true hlt
   have h0j : (0 : Int) ≤ (j : Int) := by omega
   have hj7 : (j : Int) < 7 := by omega
   have hjw : IntKind.i64.wrap ((j : Int) + 1) = (j : Int) + 1 := by rw [IntKind.wrap_i64]; omega
   obtain ⟨dj, hdj⟩ : ∃ dj, dj = IntKind.i64.wrap (draw + (j : Int)) := ⟨_, rfl⟩
   have hgl := R.out.2.1.lt
   have hpj := R.out.2.1.ptr hlt hn.2
   have F8 : Hid (∀ W, KeepF (fun b => (F b ∨ b = w.heap.size) ∨ b = gb) wr W → W.cell? ⟨w.heap.size, 3, none⟩ = some (.int .i64 draw) ∧ W.cell? ⟨gb, j, none⟩ = some (.pointer (some ⟨p j, 0, none⟩))) := Lib.hid fun W hb => ⟨(hb.bx (R.out.2.2.2.2.bx H.out.2.2.1 (.inr rfl)) (.inl (.inr rfl))).d4.2.2.2, by
    unfold World.cell? at hpj ⊢
    rw [hb.block gb (.inr rfl)]
    exact hpj⟩
   clear hpj hgl
   go_upto_region 40 with (fail)
   refine wp_region_S 12 (fun W => KeepF (fun b => (F b ∨ b = w.heap.size) ∨ b = gb) wr W) (.take 0 (.take 1 (.take 2 (.take 3 (.take 4 (.take 5 (.take 6 (.take 7 (.take 8 (.take 9 (.take 10 (.one 11 (.one 12 (.nil)))))))))))))) (by kernel_rfl) ⟨rfl, rfl, rfl, Nat.le_refl _, fun _ _ => rfl⟩ (fun _ _ _ _ h => h) (fun hS => ?_)
   repeat (first
    | (refine wpS_take (v := ?_) rfl rfl (by rfl) ?_ ?_; rotate_left; (intro W hW; have hf := F8.out W hW; go_split_ands; go_simp; try with_reducible rfl); try simp only [Act.put, lyA, lyB, lyC])
    | (refine wpS_skip rfl rfl (by rfl) ?_; try simp only [Act.put, lyA, lyB, lyC]))
   refine wpS_one rfl (by rfl) (fun K hK => ?_)
   go_simp
   go_at_call 17
   try rw [← hdj]
   have g2 := R.out.2.1.below ((Below.refl wr.heap.size wr).drew)
   refine (gtick_any g2 hlt (R.out.2.2.1 j hlt) dj).mono ?_
   rintro e w3 ⟨A, n', c', rfl, htc, hk3⟩
   refine hK (fun W => W = w3) _ _ (fun W hW => by rw [hW]; exact hS.trans hk3) rfl ?_
   have T := Lib.hid htc
   clear hK K hS htc hk3 g2
   try simp only [Act.put, lyA, lyB, lyC]
   refine wpS_last rfl (by rfl) (fun K hK => ?_)
   go_simp
   go_at_call 31
   refine T.out.mono ?_
   rintro e w4 ⟨rfl, hg4, hk4⟩
   refine hK _ _ ?_
   have Q := Lib.hid (And.intro hg4 hk4)
   clear hK K hg4 hk4
   try simp only [Act.put, lyA, lyB, lyC]
   refine wpS_nil ?_
   go_wp2_with fail
   go_roundg (n - (j + 1))
   case measure => have := R.out.1; omega
   case rel => exact ⟨j + 1, g1.ticks j dj, rfl, by omega, by go_num, Q.out.1, R.out.2.2.1.ticks hlt dj, .trans R.out.2.2.2.1 (.ticks g1 j dj hlt ⟨k, R.out.2.2.1 j hlt⟩), (R.out.2.2.2.2.trans (W2 := wr.drew) ⟨rfl, rfl, rfl, Nat.le_refl _, fun _ _ => rfl⟩).trans Q.out.2⟩
  ·have hjI : decide (j < n) = false := decide_eq_false hlt
   have hjI2 : decide ((j : Int) < (n : Int)) = false := decide_eq_false (by omega)
   go_wp2_with fail
   go_loopg [23] 60 (fun gm s23 wr2 => ∃ (i : Nat) (g2 : Gs), gm = 60 - i ∧ i ≤ 60 ∧ s23 = .int .i64 i ∧ GrIs fb wr2 n gb span p g2 (fun b => F b ∨ b = w.heap.size) ∧ GOk n (k + i) g2 ∧ Does n g g2 ∧ KeepF (fun b => F b ∨ b = w.heap.size) W0 wr2)
   case atStart => exact ⟨0, g1, by omega, by omega, rfl, R.out.2.1, R.out.2.2.1, R.out.2.2.2.1, R.out.2.2.2.2⟩
   case round =>
    obtain ⟨i, g2, hm, hi, rfl, hgr, hok, hdo, hkf⟩ := hrel
    have S := Lib.hid (And.intro hm (And.intro hgr (And.intro hok (And.intro hdo hkf))))
    obtain ⟨⟨A8, c8, h8⟩, hnl⟩ := hgr.c8
    obtain ⟨nl, hnl2⟩ : ∃ nl, nl = g2.net.length := ⟨_, rfl⟩
    rw [← hnl2] at h8 hnl
    obtain ⟨e0, e1, e2, e3⟩ := (hkf.bx H.out.2.2.1 (.inr rfl)).d4
    clear hm hgr hok hdo hkf hnl2
    by_cases hlt2 : i < 60
    ·have hiI : decide ((i : Int) < 60) = true := decide_eq_true (by omega)
     have hiw : IntKind.i64.wrap ((i : Int) + 1) = (i : Int) + 1 := by rw [IntKind.wrap_i64]; omega
     by_cases hn0 : 0 < nl
     ·have hnI : decide (0 < nl) = true := decide_eq_true hn0
      have hnI2 : decide ((0 : Int) < (nl : Int)) = true := decide_eq_true (by omega)
      go_wp2_with fail
      refine (hears_any 0 false draw S.out.2.1 S.out.2.2.1 (by have := H.out.2.2.2.2.1; omega) H.out.2.2.2.2.2.1).mono ?_
      rintro e w5 ⟨rfl, jj, hg5, hk5⟩
      have Q := Lib.hid (And.intro hg5 hk5)
      clear hg5 hk5
      go_wp2_with fail
      go_roundg (60 - (i + 1))
      case measure => have := S.out.1; omega
      case rel => exact ⟨i + 1, _, rfl, by omega, by go_num, Q.out.1, S.out.2.2.1.hears (by have := H.out.2.2.2.2.1; omega) 0 false draw jj, .trans S.out.2.2.2.1 (.hears g2 0 false draw jj ⟨k + i, S.out.2.2.1, by have := H.out.2.2.2.2.1; omega⟩), S.out.2.2.2.2.trans Q.out.2⟩
     ·have hnI : decide (0 < nl) = false := decide_eq_false hn0
      have hnI2 : decide ((0 : Int) < (nl : Int)) = false := decide_eq_false (by omega)
      go_wp2_with fail
      refine bodyPost_end (results_none rfl _ _ _) (by rfl) ?_
      exact ⟨rfl, g2, p, S.out.2.1.less_f fun b hb => .inl hb, S.out.2.2.1.mono (by omega) (by have := H.out.2.2.2.2.1; omega), S.out.2.2.2.1, H.out.2.1.trans (S.out.2.2.2.2.mono fun b hb => .inl hb)⟩
    ·have hiI : decide ((i : Int) < 60) = false := decide_eq_false (by omega)
     go_wp2_with fail
     refine bodyPost_end (results_none rfl _ _ _) (by rfl) ?_
     exact ⟨rfl, g2, p, S.out.2.1.less_f fun b hb => .inl hb, S.out.2.2.1.mono (by omega) (by have := H.out.2.2.2.2.1; omega), S.out.2.2.2.1, H.out.2.1.trans (S.out.2.2.2.2.mono fun b hb => .inl hb)⟩
end Go.Proofs.YtmhaahcbmdhinaaGreatDoor
namespace Go.Proofs.YtmhaahcbmdhinaaGreatDoor
open Go.RowKit
set_option linter.unusedVariables false
set_option linter.unusedSimpArgs false
def DeedR (n : Nat) (span kd : Int) (g g' : Gs) : Prop := ((IntKind.u64.wrap kd).tmod 17 = 15 ∧ ∃ who draw, who < n ∧ g' = g.again who span draw) ∨ ((IntKind.u64.wrap kd).tmod 17 ≠ 15 ∧ Does n g g')
theorem DeedPost.mono {fb : Nat} {w : World} {n gb : Nat} {span : Int} {F : Nat → Prop} {k : Nat} {R R' : Gs → Prop} (hr : ∀ g, R g → R' g) {e : Ending} {w' : World} (h : DeedPost fb w n gb span F k R e w') : DeedPost fb w n gb span F k R' e w' := by
 obtain ⟨h1, g', p', h2, h3, h4, h5⟩ := h
 exact ⟨h1, g', p', h2, h3, hr _ h4, h5⟩
theorem deed_any {fb n gb : Nat} {span : Int} {p : Nat → Nat} {w : World} {g : Gs} {F : Nat → Prop} {k : Nat} (kd who N draw : Int) (h : GrIs fb w n gb span p g F) (ho : GOk n k g) (hk : k + 60 ≤ 1000000) (hn : 1 ≤ n ∧ n ≤ 7) (hdl : ∀ k, k < 7 → (g.done k).length ≤ 1000000) (hsp : 2 ≤ span ∧ span ≤ 1000) :
  Calls Tryz.prog 30 #[.pointer (some ⟨gb, 0, none⟩), .int .i64 (n : Int), .agg #[.int .i64 kd, .int .i64 who, .int .i64 N, .int .i64 draw]] w (DeedPost fb w n gb span F (k + 60) (DeedR n span kd g)) := by
 obtain ⟨v, hv, _, hvt, _⟩ := umod_n kd (n := 17) (by omega) (by omega)
 have hvt' : (IntKind.u64.wrap kd).tmod 17 = (v : Int) := hvt
 have hne : v ≠ 15 → (IntKind.u64.wrap kd).tmod 17 ≠ 15 := fun h => by rw [hvt']; omega
 by_cases h15 : v = 15
 ·exact (deed_again kd who N draw h ho hk hn hsp (by rw [hvt', h15]; rfl)).mono fun e w' hp => hp.mono fun g' hg => .inl ⟨by rw [hvt', h15]; rfl, hg⟩
 ·have hc : ∀ {e : Ending} {w' : World}, DeedPost fb w n gb span F (k + 60) (Does n g) e w' → DeedPost fb w n gb span F (k + 60) (DeedR n span kd g) e w' := fun hp => hp.mono fun g' hg => .inr ⟨hne h15, hg⟩
  by_cases h3 : v ≤ 3
  ·exact (deed_tick kd who N draw h ho hk hn (by rw [hvt']; omega)).mono fun _ _ => hc
  by_cases h8 : v ≤ 8
  ·exact (deed_hears kd who N draw h ho hk hn (by rw [hvt']; omega)).mono fun _ _ => hc
  by_cases h9 : v = 9
  ·exact (deed_lost kd who N draw h ho hk hn (by rw [hvt']; omega)).mono fun _ _ => hc
  by_cases h10 : v = 10
  ·exact (deed_stays kd who N draw h ho hk hn (by rw [hvt']; omega)).mono fun _ _ => hc
  by_cases h12 : v ≤ 12
  ·exact (deed_ask kd who N draw h ho hk hn (by rw [hvt']; omega)).mono fun _ _ => hc
  by_cases h13 : v = 13
  ·exact (deed_member kd who N draw h ho hk hn (by rw [hvt']; omega)).mono fun _ _ => hc
  by_cases h14 : v = 14
  ·exact (deed_lets kd who N draw h ho hk hn hdl (by rw [hvt']; omega)).mono fun _ _ => hc
  ·exact (deed_all kd who N draw h ho hk hn (by rw [hvt']; omega)).mono fun _ _ => hc
end Go.Proofs.YtmhaahcbmdhinaaGreatDoor
namespace Go.Proofs.YtmhaahcbmdhinaaGreatDoor
open Go.RowKit
set_option maxRecDepth 100000
set_option linter.unusedVariables false
set_option linter.unusedSimpArgs false
structure De where
 kd : Int
 who : Int
 N : Int
 draw : Int
def dcell (d : De) : List Value := [.int .i64 d.kd, .int .i64 d.who, .int .i64 d.N, .int .i64 d.draw]
theorem dcell_len (d : De) : (dcell d).length = 4 := rfl
def toDe (r : List Int) : De := ⟨r.getD 0 0, r.getD 1 0, r.getD 2 0, r.getD 3 0⟩
theorem dcell_toDe {r : List Int} (h : r.length = 4) : dcell (toDe r) = ii r := by
 match r, h with
 | [a, b, c, d], _ => rfl
theorem flat_toDe : ∀ (L : List (List Int)), (∀ r ∈ L, r.length = 4) → flat dcell (L.map toDe) = flat ii L
 | [], _ => rfl
 | r :: L, h => by
  show dcell (toDe r) ++ flat dcell (L.map toDe) = ii r ++ flat ii L
  rw [dcell_toDe (h r (by simp)), flat_toDe L fun x hx => h x (List.mem_cons_of_mem _ hx)]
def arr7 (f : Nat → Int) (j : Nat) : Array Value := #[.int .i64 (if 0 < j then f 0 else 0), .int .i64 (if 1 < j then f 1 else 0), .int .i64 (if 2 < j then f 2 else 0), .int .i64 (if 3 < j then f 3 else 0), .int .i64 (if 4 < j then f 4 else 0), .int .i64 (if 5 < j then f 5 else 0), .int .i64 (if 6 < j then f 6 else 0)]
theorem arr_zero (f : Nat → Int) : arr7 f 0 = #[.int .i64 0, .int .i64 0, .int .i64 0, .int .i64 0, .int .i64 0, .int .i64 0, .int .i64 0] := rfl
theorem arr_set {f : Nat → Int} {j : Nat} (h : j < 7) : (arr7 f j).setIfInBounds j (.int .i64 (f j)) = arr7 f (j + 1) := by
 have : j = 0 ∨ j = 1 ∨ j = 2 ∨ j = 3 ∨ j = 4 ∨ j = 5 ∨ j = 6 := by omega
 rcases this with rfl | rfl | rfl | rfl | rfl | rfl | rfl <;> rfl
theorem arr_at {f : Nat → Int} {j : Nat} (h : j < 7) : (arr7 f j)[j]? = some (.int .i64 0) := by
 have : j = 0 ∨ j = 1 ∨ j = 2 ∨ j = 3 ∨ j = 4 ∨ j = 5 ∨ j = 6 := by omega
 rcases this with rfl | rfl | rfl | rfl | rfl | rfl | rfl <;> rfl
theorem arr_get {f : Nat → Int} {n k : Nat} (h : k < n) (h7 : n ≤ 7) : (arr7 f n)[k]? = some (.int .i64 (f k)) := by
 have : k = 0 ∨ k = 1 ∨ k = 2 ∨ k = 3 ∨ k = 4 ∨ k = 5 ∨ k = 6 := by omega
 rcases this with rfl | rfl | rfl | rfl | rfl | rfl | rfl <;> simp [arr7, h]
theorem fldv_commit (C : Cr) (w : World) : (Instr.field 57 (.agg #[.int .i64 C.role, .int .i64 C.leader, .int .i64 C.commit, .int .i64 C.round]) 2).run Tryz.prog w = .ok (.int .i64 C.commit) w := by kernel_rfl
def sureC (i : Nat) : Cr := if i < 4 then lone0 4 4 i else lone1 4 4 [⟨1, 1, 0, []⟩] 0
theorem lon_one : LonL [⟨1, 1, 0, []⟩] := by
 have := LonL.nil.snoc (kd := 0) (d := []) (.inl rfl) (by simp) (by simp)
 exact this
theorem sureC_tick {i : Nat} (h : i < 4) : (sureC i).tick 0 = (sureC (i + 1), []) := by
 unfold sureC
 rw [if_pos h]
 by_cases h2 : i + 1 < 4
 ·rw [if_pos h2, lone_tick0 (by omega)]
  rfl
 ·rw [if_neg h2, lone_lead (by omega)]
  rfl
theorem sureC_prop : (sureC 4).propose 1 [120] = (lone1 4 4 [⟨1, 1, 0, []⟩, ⟨2, 1, 1, [120]⟩] 0, 2, [], 0) := by
 have := lone_propose (span := 4) (wait := 4) (r := 0) lon_one (by simp) (by simp) [120]
 exact this
theorem i64_0 : I64 0 := by unfold I64; omega
theorem St1_may : (St.mk 0 0 0 0 [] [1] []).may = true := by decide
set_option maxHeartbeats 12800000 in
theorem sure_any {fb : Nat} (w : World) (he : Env fb w) : Calls Tryz.prog 11 #[] w (BoolPost w true) := by
 obtain ⟨W0, hW0⟩ : ∃ W0, W0 = w.alloc (.cells #[.int .i64 1] 3) := ⟨_, rfl⟩
 have hb0 : Below w.heap.size w W0 := by subst hW0; exact (Below.refl _ _).alloc (Nat.le_refl _) _
 have r0 : Rd W0 T 1 (some ⟨w.heap.size, 0, none⟩) 1 (ii [1]) := by subst hW0; exact (show Rd _ _ 1 _ 1 (ii [1]) from Rd.blit1 (cs := #[.int .i64 1]) rfl).any
 have a0 : Sv.At ⟨0, 0, 0, 0, none, 0, 0, [], some ⟨w.heap.size, 0, none⟩, 1, 1, [1], none, 0, 0, []⟩ W0 T := ⟨Rd.none_, (fun y hy => by cases hy), r0, Rd.none_, ⟨Nat.le_refl _, by simp [maxLen]⟩, ⟨Nat.le_refl _, by simp [maxLen]⟩, ⟨Nat.le_refl _, by simp [maxLen]⟩⟩
 have hf : Sv.Fit ⟨0, 0, 0, 0, none, 0, 0, [], some ⟨w.heap.size, 0, none⟩, 1, 1, [1], none, 0, 0, []⟩ := ⟨⟨i64_0, i64_0, i64_0, i64_0⟩, (fun y hy => by cases hy), by show (0 : Nat) ≤ 1000000 ∧ (1 : Nat) ≤ 1000000 ∧ (0 : Nat) ≤ 100000000; omega⟩
 have hnw := new_ok 1 4 0 _ W0 a0 hf (he.new hb0).ev (by omega) (by omega) (by omega) (by omega)
 have HW := Lib.hid hW0
 have H := Lib.hid (And.intro he hb0)
 have Hnw := Lib.hid hnw
 unfold Sv.val stA at Hnw
 clear hW0 hb0 r0 a0 hf hnw he
 go_enter Tryz.func11, Tryz.ntmps11
 go_wp2_with fail
 rw [← HW.out]
 refine Hnw.out.mono ?_
 intro e w1 h1
 have h1 : NewPost W0 1 4 0 ⟨0, 0, 0, 0, [], [1], []⟩ e w1 := h1
 unfold NewPost at h1
 rw [if_pos St1_may] at h1
 obtain ⟨p, s', rfl, b1, a1, e1, hp, m1, hb1⟩ := h1
 have hb1' : Below w.heap.size w w1 := H.out.2.trans (hb1.mono H.out.2.size)
 have hcx : CX w.heap.size w1 (p + 1) (fun b => b = p ∨ b = p + 1) (fun b => b = p ∨ b = p + 1) (sureC 0) (newMb p s') := CX.ofNew H.out.2.size b1 a1 e1 hp m1
 have hok : (sureC 0).Ok 1 := Cr.Ok.new (id := 1) (span := 4) (draw := 0) St1_may (by show (0 : Nat) ≤ _; omega) (by decide) (by decide)
 have hle := H.out.1.le
 have hen : Env w.heap.size w := ⟨w, rfl, H.out.1.ev, H.out.1.tab, Below.refl _ _⟩
 have hen1 : Env w.heap.size w1 := hen.new hb1'
 have S1 := Lib.hid (And.intro hcx (And.intro hok (And.intro hen1 hb1')))
 have hpw : w.heap.size ≤ p := Nat.le_trans H.out.2.size hp
 clear b1 a1 e1 hp m1 hb1 hb1' hcx hok hle hen hen1
 go_wp2_with fail
 go_loopg [3] 4 (fun gm s3 wr => ∃ (i : Nat) (V' U' : Nat → Prop) (m' : Mb), gm = 4 - i ∧ i ≤ 4 ∧ s3 = .int .i64 i ∧ CTo w.heap.size w1 (p + 1) (fun b => b = p ∨ b = p + 1) (fun b => b = p ∨ b = p + 1) (sureC i) wr V' U' m' ∧ (sureC i).Ok 1)
 case atStart => exact ⟨0, _, _, _, by omega, by omega, rfl, CTo.refl S1.out.1, S1.out.2.1⟩
 case round =>
  obtain ⟨i, V', U', m', hm, hi, rfl, hR⟩ := hrel
  have Hm := Lib.hid hm
  have R := Lib.hid hR
  clear hm hR
  have hen : Env w.heap.size wr := S1.out.2.2.1.kept R.out.1.kept S1.out.1.vf
  by_cases hlt : i < 4
  ·have hltI : decide ((i : Int) < 4) = true := decide_eq_true (by omega)
   have htk := tick_any 0 R.out.1.cx R.out.2 hen
   have htk2 := R.out.2.tick 0
   rw [sureC_tick hlt] at htk htk2
   have Htk := Lib.hid (And.intro htk htk2)
   clear htk htk2 hen
   go_wp2_with fail
   refine Htk.out.1.mono ?_
   intro e w2 h2
   obtain ⟨A2, n2, c2, X2, V2, U2, m2, rfl, _, _, _, t2⟩ := h2
   have T2 := Lib.hid t2
   clear t2
   go_wp2_with fail
   go_roundg (4 - (i + 1))
   case measure => have := Hm.out; omega
   case rel => exact ⟨i + 1, V2, U2, m2, rfl, by omega, by go_num, R.out.1.trans T2.out, Htk.out.2⟩
  ·have hltI : decide ((i : Int) < 4) = false := decide_eq_false (by omega)
   obtain rfl : i = 4 := by omega
   obtain ⟨W3, hW3⟩ : ∃ W3, W3 = wr.alloc (.cells #[.int .u8 120] 5 (1, 2)) := ⟨_, rfl⟩
   have hb3 : Below wr.heap.size wr W3 := by subst hW3; exact (Below.refl _ _).alloc (Nat.le_refl _) _
   have r3 : Rd W3 T 1 (some ⟨wr.heap.size, 0, none⟩) 1 (bs [120]) := by subst hW3; exact (show Rd _ _ 1 _ 1 (bs [120]) from Rd.blit1 (cs := #[.int .u8 120]) rfl).any
   have hpr := propose_any 1 (some ⟨wr.heap.size, 0, none⟩) 1 1 [120] (R.out.1.cx.below hb3) R.out.2 (hen.new hb3) r3 ⟨Nat.le_refl _, by simp [maxLen]⟩
   rw [sureC_prop] at hpr
   have Hpr := Lib.hid (And.intro hpr hb3)
   have HW3 := Lib.hid hW3
   clear hpr hb3 hW3 r3 hen
   have kc := fun (W : World) (C : Array Value) (n c : Nat) => Lib.run_convert_bytes_const (P := Tryz.prog) W 26 5 C n c Tryz.underlying26 Tryz.underlying5
   go_wp2_with fail
   clear kc
   try simp only [List.size_toArray, List.length_cons, List.length_nil, Nat.zero_add, Nat.reduceAdd]
   rw [← HW3.out]
   refine Hpr.out.1.mono ?_
   intro e w4 h4
   obtain ⟨A4, n4, c4, rfl, h4⟩ := h4
   obtain ⟨A5, n5, c5, X5, V5, U5, m5, _, _, _, _, t5⟩ := h4
   have T5 := Lib.hid t5
   clear t5
   have hvw := view_any T5.out.cx
   unfold Cr.viewV at hvw
   have Hvw := Lib.hid hvw
   clear hvw
   rw [errE0]
   go_wp2_with fail
   refine Hvw.out.mono ?_
   rintro e w6 ⟨rfl, hb6⟩
   have hbe : Below w.heap.size w w6 := by
    have h1 := S1.out.2.2.2.trans (Kept.below R.out.1.kept (fun b hb => by rcases hb with rfl | rfl <;> omega) S1.out.2.2.2.size)
    have h2 := h1.trans (Hpr.out.2.mono h1.size)
    have h3 := h2.trans (Kept.below T5.out.kept (fun b hb => R.out.1.cx.vf b hb) h2.size)
    exact h3.trans (hb6.mono h3.size)
   have HB := Lib.hid hbe
   clear hb6 hbe
   go_wp2_with fail
   go_ret
   exact ⟨rfl, HB.out.alloc HB.out.size _⟩
end Go.Proofs.YtmhaahcbmdhinaaGreatDoor
