/- Walk of tollbarlaw09.EntryFroms. (Printed by mkfroms.py.) -/
import Derived.Test.YtefjejlpbfbpcaaDoorFromA
import Derived.Test.YtefjejlpbfbpcaaDoorSure
import Derived.Test.YtefjejlpbfbpcaaDoorHand
namespace Go.Proofs.YtefjejlpbfbpcaaDoor
open Go.RowKit
set_option maxRecDepth 100000
set_option linter.unusedVariables false
set_option linter.unusedSimpArgs false
set_option maxHeartbeats 6400000 in
theorem froms_walk (b t ix most : Int) (A : Option Addr) (n c : Nat) (L : List Er) (w : World) (hr : Rd w T 4 A n (flat ecell L)) (hd : Dat w L) (hw : ∀ y ∈ L, W64 y ∧ y.n ≤ 140737488351232) (hn : n ≤ 9223372036854775807) (hix : I64 ix) (htab : TabW w) :
    Calls Tryd.prog 4 #[.agg #[.int .i64 b, .int .i64 t, .slice A n c], .int .i64 ix, .int .i64 most] w (YesPost w) := by
  obtain ⟨W0, hW0⟩ : ∃ W0, W0 = w.alloc (.cells #[.int .i64 b, .int .i64 t, .slice A n c] 24) := ⟨_, rfl⟩
  have bx0 : Bx W0 w.heap.size #[.int .i64 b, .int .i64 t, .slice A n c] := by subst hW0; exact Bx.new _ _ _ rfl
  have hb0 : Below w.heap.size w W0 := by subst hW0; exact (Below.refl _ _).alloc (Nat.le_refl _) _
  have r0 : Rd W0 T 4 A n (flat ecell L) := by subst hW0; exact hr.alloc _
  have d0 : Dat W0 L := hd.below (by subst hW0; exact (Below.refl _ _).alloc (Nat.le_refl _) _)
  have t0 : TabW W0 := htab.below hb0 (Nat.le_refl _)
  have hwl : Wel L := fun y hy => ⟨(hw y hy).1, ((hd y hy).1.blen).symm⟩
  have sof : ∀ W, Below W0.heap.size W0 W → (Below W0.heap.size W0 W ∧ W.cell? ⟨w.heap.size, 0, none⟩ = some (.int .i64 b) ∧ W.cell? ⟨w.heap.size, 1, none⟩ = some (.int .i64 t) ∧ W.cell? ⟨w.heap.size, 2, none⟩ = some (.slice A n c)) := fun W h => ⟨h, (bx0.below h).c 0, (bx0.below h).c 1, (bx0.below h).c 2⟩
  have s0 := sof _ (Below.refl _ _).drew
  have hlg := fun (W : World) (h : Below W0.heap.size W0 W) => longs_any A n c L W (r0.below h) (fun x hx => (hw x hx).2) hn
  obtain ⟨lg, hlgv⟩ : ∃ lg, longB L = lg := ⟨_, rfl⟩
  rw [hlgv] at hlg
  have Hb0 := Lib.hid hb0
  have Sof := Lib.hid sof
  have HW := Lib.hid hW0
  have Hlg := Lib.hid hlg
  cases lg
  · obtain ⟨hl1, hl2⟩ := longB_no hlgv
    have hlen := hr.flen ecell_len (by omega)
    have hn2 : n ≤ 200 := by omega
    have hs : ∀ x ∈ L, x.n ≤ 1000000 := fun x hx => by have := hl2 x hx; omega
    have hgv := fun (W : World) (h : Below W0.heap.size W0 W) => giveLog_any b t A n c L W (r0.below h) (d0.below h) hs (by omega)
    have hfr := fun (W : World) (h : Below W0.heap.size W0 W) => fromR_any b t ix most A n c L W (r0.below h) hwl (by omega) hix.2
    have hfa := fun (W : World) A' c' L' (r : Rd W T 4 A' n (flat ecell L')) (d : Dat W L') (hsm : Same L L') (h1 : n ≤ c') (h2 : c' ≤ maxLen) => from_any b t ix most A' n c' L' W r d (wel_mem hwl hs (fun y hy => by rw [← hsm]; exact List.mem_map.2 ⟨y, hy, rfl⟩) d).2 (wel_mem hwl hs (fun y hy => by rw [← hsm]; exact List.mem_map.2 ⟨y, hy, rfl⟩) d).1 (by omega) h1 h2
    have hlR := fromLR_en b t L ix most
    have hwe := fromL_wtE b t (L.map en) ix most
    have hle : (fromL b t (L.map en) ix most).length ≤ 1000000 := by
      unfold fromL
      split
      · simp only [List.length_take, List.length_drop, List.length_map]; omega
      · simp
    have hen := fun (W : World) (h : Below W0.heap.size W0 W) A1 n1 c1 L1 B1 m1 d1 (hq1 : Rd W T 4 A1 n1 (flat ecell L1)) (hqd : Dat W L1) (hq2 : L1.map en = fromL b t (L.map en) ix most) (hq3 : Rd W T 4 B1 m1 (flat ecell (fromLR b t L ix most))) => entries_same (fromL b t (L.map en) ix most) A1 n1 c1 L1 B1 m1 d1 _ W hq1 hq3 hqd (fun x hx => (d0.below h) x (fromLR_sub _ _ _ _ _ x hx)) hq2 hlR hwe hle (t0.below h (Nat.le_refl _))
    have Hgv := Lib.hid hgv
    have Hfr := Lib.hid hfr
    have Hfa := Lib.hid hfa
    have Hen := Lib.hid hen
    clear hr hd hw hW0 bx0 hb0 r0 d0 t0 hwl sof hlg hgv hfr hfa hen hl2 hlgv hlen hs hlR htab hwe hle
    go_enter Tryd.func4, Tryd.ntmps4
    go_upto_region 1 with (fail)
    rw [← HW.out]
    refine wp_region_M 21 (fun W => Below W0.heap.size W0 W ∧ W.cell? ⟨w.heap.size, 0, none⟩ = some (.int .i64 b) ∧ W.cell? ⟨w.heap.size, 1, none⟩ = some (.int .i64 t) ∧ W.cell? ⟨w.heap.size, 2, none⟩ = some (.slice A n c)) (by kernel_rfl) s0 (fun hS => ?_)
    refine wpAnyM_takeD (i := 0) (d := 7) (v := ?_) rfl (by kernel_rfl) (by kernel_rfl) (by kernel_rfl) (by kernel_rfl) (fun _ _ _ h => h) hS (by kernel_rfl) (by rfl) ?_ ?_
    rotate_left
    · rintro W ⟨-, s1, s2, s3⟩
      go_simp
      try with_reducible rfl
    try simp only [Act.put, List.setIfInBounds_toArray, List.set_cons_zero, List.set_cons_succ]
    refine wpAnyM_takeD (i := 1) (d := 8) (v := ?_) rfl (by kernel_rfl) (by kernel_rfl) (by kernel_rfl) (by kernel_rfl) (fun _ _ _ h => h) hS (by kernel_rfl) (by rfl) ?_ ?_
    rotate_left
    · rintro W ⟨-, s1, s2, s3⟩
      go_simp
      try with_reducible rfl
    try simp only [Act.put, List.setIfInBounds_toArray, List.set_cons_zero, List.set_cons_succ]
    refine wpAnyM_one (i := 2) (by kernel_rfl) rfl (fun K hK => ?_)
    go_simp
    go_at_call 8
    refine (Hlg.out _ hS.1).mono ?_
    rintro e w1 ⟨rfl, hb1⟩
    have hS1 := Sof.out w1 (hS.1.trans (hb1.mono hS.1.size))
    clear hS
    have hS := hS1
    clear hS1
    refine hK _ _ (fun _ => hS) ?_
    clear hK K
    try simp only [Act.put, List.setIfInBounds_toArray, List.set_cons_zero, List.set_cons_succ]
    refine wpAnyM_takeD (i := 3) (d := 10) (v := ?_) rfl (by kernel_rfl) (by kernel_rfl) (by kernel_rfl) (by kernel_rfl) (fun _ _ _ h => h) hS (by kernel_rfl) (by rfl) ?_ ?_
    rotate_left
    · rintro W ⟨-, s1, s2, s3⟩
      go_simp
      try with_reducible rfl
    try simp only [Act.put, List.setIfInBounds_toArray, List.set_cons_zero, List.set_cons_succ]
    refine wpAnyM_skipD (i := 4) (d := 11) rfl (by kernel_rfl) (by kernel_rfl) (by kernel_rfl) (by kernel_rfl) (fun _ _ _ h => h) hS (by kernel_rfl) (by rfl) ?_
    try simp only [Act.put, List.setIfInBounds_toArray, List.set_cons_zero, List.set_cons_succ]
    refine wpAnyM_takeD (i := 5) (d := 12) (v := ?_) rfl (by kernel_rfl) (by kernel_rfl) (by kernel_rfl) (by kernel_rfl) (fun _ _ _ h => h) hS (by kernel_rfl) (by rfl) ?_ ?_
    rotate_left
    · rintro W ⟨-, s1, s2, s3⟩
      go_simp
      try with_reducible rfl
    try simp only [Act.put, List.setIfInBounds_toArray, List.set_cons_zero, List.set_cons_succ]
    refine wpAnyM_takeD (i := 6) (d := 13) (v := ?_) rfl (by kernel_rfl) (by kernel_rfl) (by kernel_rfl) (by kernel_rfl) (fun _ _ _ h => h) hS (by kernel_rfl) (by rfl) ?_ ?_
    rotate_left
    · rintro W ⟨-, s1, s2, s3⟩
      go_simp
      try with_reducible rfl
    try simp only [Act.put, List.setIfInBounds_toArray, List.set_cons_zero, List.set_cons_succ]
    refine wpAnyM_takeD (i := 7) (d := 14) (v := ?_) rfl (by kernel_rfl) (by kernel_rfl) (by kernel_rfl) (by kernel_rfl) (fun _ _ _ h => h) hS (by kernel_rfl) (by rfl) ?_ ?_
    rotate_left
    · rintro W ⟨-, s1, s2, s3⟩
      go_simp
      try with_reducible rfl
    try simp only [Act.put, List.setIfInBounds_toArray, List.set_cons_zero, List.set_cons_succ]
    refine wpAnyM_takeD (i := 9) (d := 16) (v := ?_) rfl (by kernel_rfl) (by kernel_rfl) (by kernel_rfl) (by kernel_rfl) (fun _ _ _ h => h) hS (by kernel_rfl) (by rfl) ?_ ?_
    rotate_left
    · rintro W ⟨-, s1, s2, s3⟩
      go_simp
      try with_reducible rfl
    try simp only [Act.put, List.setIfInBounds_toArray, List.set_cons_zero, List.set_cons_succ]
    refine wpAnyM_takeD (i := 10) (d := 17) (v := ?_) rfl (by kernel_rfl) (by kernel_rfl) (by kernel_rfl) (by kernel_rfl) (fun _ _ _ h => h) hS (by kernel_rfl) (by rfl) ?_ ?_
    rotate_left
    · rintro W ⟨-, s1, s2, s3⟩
      go_simp
      try with_reducible rfl
    try simp only [Act.put, List.setIfInBounds_toArray, List.set_cons_zero, List.set_cons_succ]
    refine wpAnyM_takeD (i := 12) (d := 19) (v := ?_) rfl (by kernel_rfl) (by kernel_rfl) (by kernel_rfl) (by kernel_rfl) (fun _ _ _ h => h) hS (by kernel_rfl) (by rfl) ?_ ?_
    rotate_left
    · rintro W ⟨-, s1, s2, s3⟩
      go_simp
      try with_reducible rfl
    try simp only [Act.put, List.setIfInBounds_toArray, List.set_cons_zero, List.set_cons_succ]
    refine wpAnyM_takeD (i := 13) (d := 20) (v := ?_) rfl (by kernel_rfl) (by kernel_rfl) (by kernel_rfl) (by kernel_rfl) (fun _ _ _ h => h) hS (by kernel_rfl) (by rfl) ?_ ?_
    rotate_left
    · rintro W ⟨-, s1, s2, s3⟩
      go_simp
      try with_reducible rfl
    try simp only [Act.put, List.setIfInBounds_toArray, List.set_cons_zero, List.set_cons_succ]
    refine wpAnyM_takeD (i := 14) (d := 21) (v := ?_) rfl (by kernel_rfl) (by kernel_rfl) (by kernel_rfl) (by kernel_rfl) (fun _ _ _ h => h) hS (by kernel_rfl) (by rfl) ?_ ?_
    rotate_left
    · rintro W ⟨-, s1, s2, s3⟩
      go_simp
      try with_reducible rfl
    try simp only [Act.put, List.setIfInBounds_toArray, List.set_cons_zero, List.set_cons_succ]
    refine wpAnyM_one (i := 8) (by kernel_rfl) rfl (fun K hK => ?_)
    go_simp
    go_at_call 11
    refine (Hgv.out _ hS.1).mono ?_
    rintro e w2 ⟨A2, c2, L2, rfl, r2, d2, m2, n2, x2, hb2⟩
    have hS2 := Sof.out w2 (hS.1.trans (hb2.mono hS.1.size))
    clear hS
    have hS := hS2
    clear hS2
    refine hK _ _ (fun _ => hS) ?_
    clear hK K
    try simp only [Act.put, List.setIfInBounds_toArray, List.set_cons_zero, List.set_cons_succ]
    refine wpAnyM_one (i := 11) (by kernel_rfl) rfl (fun K hK => ?_)
    go_simp
    go_at_call 15
    refine (Hfa.out _ A2 c2 L2 r2 d2 m2 n2 x2).mono ?_
    rintro e w3 ⟨A3, n3, c3, L3, rfl, ro3, m3, hb3⟩
    have hS3 := Sof.out w3 (hS.1.trans (hb3.mono hS.1.size))
    rw [m2] at m3
    clear hS
    have hS := hS3
    clear hS3
    refine hK _ _ (fun _ => hS) ?_
    clear hK K
    try simp only [Act.put, List.setIfInBounds_toArray, List.set_cons_zero, List.set_cons_succ]
    refine wpAnyM_one (i := 15) (by kernel_rfl) rfl (fun K hK => ?_)
    go_simp
    go_at_call 16
    refine (Hfr.out _ hS.1).mono ?_
    rintro e w4 ⟨B4, n4, c4, rfl, r4, hb4⟩
    have hS4 := Sof.out w4 (hS.1.trans (hb4.mono hS.1.size))
    have ro4 := ro3.below hb4
    clear hS
    have hS := hS4
    clear hS4
    refine hK _ _ (fun _ => hS) ?_
    clear hK K
    try simp only [Act.put, List.setIfInBounds_toArray, List.set_cons_zero, List.set_cons_succ]
    refine wpAnyM_one (i := 16) (by kernel_rfl) rfl (fun K hK => ?_)
    go_simp
    go_at_call 14
    refine (Hen.out _ hS.1 A3 n3 c3 L3 B4 n4 c4 ro4.rd ro4.dat m3 r4).mono ?_
    rintro e w5 ⟨rfl, hb5⟩
    have hS5 := Sof.out w5 (hS.1.trans (hb5.mono hS.1.size))
    clear hS
    have hS := hS5
    clear hS5
    refine hK _ _ (fun _ => hS) ?_
    clear hK K
    try simp only [Act.put, List.setIfInBounds_toArray, List.set_cons_zero, List.set_cons_succ]
    refine wpAnyM_takeD (i := 17) (d := 24) (v := ?_) rfl (by kernel_rfl) (by kernel_rfl) (by kernel_rfl) (by kernel_rfl) (fun _ _ _ h => h) hS (by kernel_rfl) (by rfl) ?_ ?_
    rotate_left
    · rintro W ⟨-, s1, s2, s3⟩
      go_simp
      try with_reducible rfl
    try simp only [Act.put, List.setIfInBounds_toArray, List.set_cons_zero, List.set_cons_succ]
    refine wpAnyM_one (i := 18) (by kernel_rfl) rfl (fun K hK => ?_)
    go_simp
    go_at_call 9
    refine (sure_any _).mono ?_
    rintro e w6 ⟨rfl, hb6⟩
    have hS6 := Sof.out w6 (hS.1.trans (hb6.mono hS.1.size))
    clear hS
    have hS := hS6
    clear hS6
    refine hK _ _ (fun _ => hS) ?_
    clear hK K
    try simp only [Act.put, List.setIfInBounds_toArray, List.set_cons_zero, List.set_cons_succ]
    refine wpAnyM_takeD (i := 19) (d := 26) (v := ?_) rfl (by kernel_rfl) (by kernel_rfl) (by kernel_rfl) (by kernel_rfl) (fun _ _ _ h => h) hS (by kernel_rfl) (by rfl) ?_ ?_
    rotate_left
    · rintro W ⟨-, s1, s2, s3⟩
      go_simp
      try with_reducible rfl
    try simp only [Act.put, List.setIfInBounds_toArray, List.set_cons_zero, List.set_cons_succ]
    refine wpAnyM_takeD (i := 20) (d := 27) (v := ?_) rfl (by kernel_rfl) (by kernel_rfl) (by kernel_rfl) (by kernel_rfl) (fun _ _ _ h => h) hS (by kernel_rfl) (by rfl) ?_ ?_
    rotate_left
    · rintro W ⟨-, s1, s2, s3⟩
      go_simp
      try with_reducible rfl
    try simp only [Act.put, List.setIfInBounds_toArray, List.set_cons_zero, List.set_cons_succ]
    refine wpAnyM_one (i := 21) (by kernel_rfl) rfl (fun K hK => ?_)
    go_simp
    refine hK _ _ (fun h => absurd rfl h) ?_
    clear hK K
    refine wpAnyM_done (by kernel_rfl) ?_ _
    go_wp2_with fail
    go_ret
    exact ⟨rfl, Hb0.out.trans (hS.1.mono Hb0.out.size)⟩
  · clear hr hd hw hW0 bx0 hb0 r0 d0 t0 hwl sof hlg hlgv htab
    go_enter Tryd.func4, Tryd.ntmps4
    go_upto_region 1 with (fail)
    rw [← HW.out]
    refine wp_region_M 21 (fun W => Below W0.heap.size W0 W ∧ W.cell? ⟨w.heap.size, 0, none⟩ = some (.int .i64 b) ∧ W.cell? ⟨w.heap.size, 1, none⟩ = some (.int .i64 t) ∧ W.cell? ⟨w.heap.size, 2, none⟩ = some (.slice A n c)) (by kernel_rfl) s0 (fun hS => ?_)
    refine wpAnyM_takeD (i := 0) (d := 7) (v := ?_) rfl (by kernel_rfl) (by kernel_rfl) (by kernel_rfl) (by kernel_rfl) (fun _ _ _ h => h) hS (by kernel_rfl) (by rfl) ?_ ?_
    rotate_left
    · rintro W ⟨-, s1, s2, s3⟩
      go_simp
      try with_reducible rfl
    try simp only [Act.put, List.setIfInBounds_toArray, List.set_cons_zero, List.set_cons_succ]
    refine wpAnyM_takeD (i := 1) (d := 8) (v := ?_) rfl (by kernel_rfl) (by kernel_rfl) (by kernel_rfl) (by kernel_rfl) (fun _ _ _ h => h) hS (by kernel_rfl) (by rfl) ?_ ?_
    rotate_left
    · rintro W ⟨-, s1, s2, s3⟩
      go_simp
      try with_reducible rfl
    try simp only [Act.put, List.setIfInBounds_toArray, List.set_cons_zero, List.set_cons_succ]
    refine wpAnyM_one (i := 2) (by kernel_rfl) rfl (fun K hK => ?_)
    go_simp
    go_at_call 8
    refine (Hlg.out _ hS.1).mono ?_
    rintro e w1 ⟨rfl, hb1⟩
    have hS1 := Sof.out w1 (hS.1.trans (hb1.mono hS.1.size))
    clear hS
    have hS := hS1
    clear hS1
    refine hK _ _ (fun _ => hS) ?_
    clear hK K
    try simp only [Act.put, List.setIfInBounds_toArray, List.set_cons_zero, List.set_cons_succ]
    refine wpAnyM_takeD (i := 3) (d := 10) (v := ?_) rfl (by kernel_rfl) (by kernel_rfl) (by kernel_rfl) (by kernel_rfl) (fun _ _ _ h => h) hS (by kernel_rfl) (by rfl) ?_ ?_
    rotate_left
    · rintro W ⟨-, s1, s2, s3⟩
      go_simp
      try with_reducible rfl
    try simp only [Act.put, List.setIfInBounds_toArray, List.set_cons_zero, List.set_cons_succ]
    refine wpAnyM_one (i := 4) (by kernel_rfl) rfl (fun K hK => ?_)
    go_simp
    go_at_call 9
    refine (sure_any _).mono ?_
    rintro e w2 ⟨rfl, hb2⟩
    have hS2 := Sof.out w2 (hS.1.trans (hb2.mono hS.1.size))
    clear hS
    have hS := hS2
    clear hS2
    refine hK _ _ (fun _ => hS) ?_
    clear hK K
    try simp only [Act.put, List.setIfInBounds_toArray, List.set_cons_zero, List.set_cons_succ]
    refine wpAnyM_takeD (i := 5) (d := 12) (v := ?_) rfl (by kernel_rfl) (by kernel_rfl) (by kernel_rfl) (by kernel_rfl) (fun _ _ _ h => h) hS (by kernel_rfl) (by rfl) ?_ ?_
    rotate_left
    · rintro W ⟨-, s1, s2, s3⟩
      go_simp
      try with_reducible rfl
    try simp only [Act.put, List.setIfInBounds_toArray, List.set_cons_zero, List.set_cons_succ]
    refine wpAnyM_takeD (i := 6) (d := 13) (v := ?_) rfl (by kernel_rfl) (by kernel_rfl) (by kernel_rfl) (by kernel_rfl) (fun _ _ _ h => h) hS (by kernel_rfl) (by rfl) ?_ ?_
    rotate_left
    · rintro W ⟨-, s1, s2, s3⟩
      go_simp
      try with_reducible rfl
    try simp only [Act.put, List.setIfInBounds_toArray, List.set_cons_zero, List.set_cons_succ]
    refine wpAnyM_skipD (i := 7) (d := 14) rfl (by kernel_rfl) (by kernel_rfl) (by kernel_rfl) (by kernel_rfl) (fun _ _ _ h => h) hS (by kernel_rfl) (by rfl) ?_
    try simp only [Act.put, List.setIfInBounds_toArray, List.set_cons_zero, List.set_cons_succ]
    refine wpAnyM_skipD (i := 8) (d := 15) rfl (by kernel_rfl) (by kernel_rfl) (by kernel_rfl) (by kernel_rfl) (fun _ _ _ h => h) hS (by kernel_rfl) (by rfl) ?_
    try simp only [Act.put, List.setIfInBounds_toArray, List.set_cons_zero, List.set_cons_succ]
    refine wpAnyM_skipD (i := 9) (d := 16) rfl (by kernel_rfl) (by kernel_rfl) (by kernel_rfl) (by kernel_rfl) (fun _ _ _ h => h) hS (by kernel_rfl) (by rfl) ?_
    try simp only [Act.put, List.setIfInBounds_toArray, List.set_cons_zero, List.set_cons_succ]
    refine wpAnyM_skipD (i := 10) (d := 17) rfl (by kernel_rfl) (by kernel_rfl) (by kernel_rfl) (by kernel_rfl) (fun _ _ _ h => h) hS (by kernel_rfl) (by rfl) ?_
    try simp only [Act.put, List.setIfInBounds_toArray, List.set_cons_zero, List.set_cons_succ]
    refine wpAnyM_skipD (i := 11) (d := 18) rfl (by kernel_rfl) (by kernel_rfl) (by kernel_rfl) (by kernel_rfl) (fun _ _ _ h => h) hS (by kernel_rfl) (by rfl) ?_
    try simp only [Act.put, List.setIfInBounds_toArray, List.set_cons_zero, List.set_cons_succ]
    refine wpAnyM_skipD (i := 12) (d := 19) rfl (by kernel_rfl) (by kernel_rfl) (by kernel_rfl) (by kernel_rfl) (fun _ _ _ h => h) hS (by kernel_rfl) (by rfl) ?_
    try simp only [Act.put, List.setIfInBounds_toArray, List.set_cons_zero, List.set_cons_succ]
    refine wpAnyM_skipD (i := 13) (d := 20) rfl (by kernel_rfl) (by kernel_rfl) (by kernel_rfl) (by kernel_rfl) (fun _ _ _ h => h) hS (by kernel_rfl) (by rfl) ?_
    try simp only [Act.put, List.setIfInBounds_toArray, List.set_cons_zero, List.set_cons_succ]
    refine wpAnyM_skipD (i := 14) (d := 21) rfl (by kernel_rfl) (by kernel_rfl) (by kernel_rfl) (by kernel_rfl) (fun _ _ _ h => h) hS (by kernel_rfl) (by rfl) ?_
    try simp only [Act.put, List.setIfInBounds_toArray, List.set_cons_zero, List.set_cons_succ]
    refine wpAnyM_skipD (i := 15) (d := 22) rfl (by kernel_rfl) (by kernel_rfl) (by kernel_rfl) (by kernel_rfl) (fun _ _ _ h => h) hS (by kernel_rfl) (by rfl) ?_
    try simp only [Act.put, List.setIfInBounds_toArray, List.set_cons_zero, List.set_cons_succ]
    refine wpAnyM_skipD (i := 16) (d := 23) rfl (by kernel_rfl) (by kernel_rfl) (by kernel_rfl) (by kernel_rfl) (fun _ _ _ h => h) hS (by kernel_rfl) (by rfl) ?_
    try simp only [Act.put, List.setIfInBounds_toArray, List.set_cons_zero, List.set_cons_succ]
    refine wpAnyM_skipD (i := 17) (d := 24) rfl (by kernel_rfl) (by kernel_rfl) (by kernel_rfl) (by kernel_rfl) (fun _ _ _ h => h) hS (by kernel_rfl) (by rfl) ?_
    try simp only [Act.put, List.setIfInBounds_toArray, List.set_cons_zero, List.set_cons_succ]
    refine wpAnyM_skipD (i := 18) (d := 25) rfl (by kernel_rfl) (by kernel_rfl) (by kernel_rfl) (by kernel_rfl) (fun _ _ _ h => h) hS (by kernel_rfl) (by rfl) ?_
    try simp only [Act.put, List.setIfInBounds_toArray, List.set_cons_zero, List.set_cons_succ]
    refine wpAnyM_skipD (i := 19) (d := 26) rfl (by kernel_rfl) (by kernel_rfl) (by kernel_rfl) (by kernel_rfl) (fun _ _ _ h => h) hS (by kernel_rfl) (by rfl) ?_
    try simp only [Act.put, List.setIfInBounds_toArray, List.set_cons_zero, List.set_cons_succ]
    refine wpAnyM_takeD (i := 20) (d := 27) (v := ?_) rfl (by kernel_rfl) (by kernel_rfl) (by kernel_rfl) (by kernel_rfl) (fun _ _ _ h => h) hS (by kernel_rfl) (by rfl) ?_ ?_
    rotate_left
    · rintro W ⟨-, s1, s2, s3⟩
      go_simp
      try with_reducible rfl
    try simp only [Act.put, List.setIfInBounds_toArray, List.set_cons_zero, List.set_cons_succ]
    refine wpAnyM_one (i := 21) (by kernel_rfl) rfl (fun K hK => ?_)
    go_simp
    refine hK _ _ (fun h => absurd rfl h) ?_
    clear hK K
    refine wpAnyM_done (by kernel_rfl) ?_ _
    go_wp2_with fail
    go_ret
    exact ⟨rfl, Hb0.out.trans (hS.1.mono Hb0.out.size)⟩
end Go.Proofs.YtefjejlpbfbpcaaDoor
