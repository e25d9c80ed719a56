/- Walk of the document's Encode of an entry, at any ints. (Printed by mkencu.py.) -/
import Derived.Test.YtlecglmiigdjlaaGreatDoorZb9
import Derived.Test.YtlecglmiigdjlaaGreatDoorZb3
namespace Go.Proofs.YtlecglmiigdjlaaGreatDoor
open Go.RowKit
set_option maxRecDepth 100000
set_option linter.unusedVariables false
set_option linter.unusedSimpArgs false
set_option maxHeartbeats 3200000 in
theorem encodeR_int (a b c : Int) (A : Option Addr) (n m : Nat) (d : List UInt8) (w : World) (hr : Rd w T 1 A n (bs d)) (hn : n ≤ 1000000) :
    Calls Tryz.prog 42 #[.agg #[.int .i64 a, .int .i64 b, .int .i64 c, .slice A n m]] w (BytesPost w (encN (uN a) (uN b) (uN c) d)) := by
  obtain ⟨W0, hW0⟩ : ∃ W0, W0 = w.alloc (.cells #[.int .i64 a, .int .i64 b, .int .i64 c, .slice A n m] 93) := ⟨_, rfl⟩
  have b0 : Bx W0 w.heap.size #[.int .i64 a, .int .i64 b, .int .i64 c, .slice A n m] := by subst hW0; exact Bx.new _ _ _ rfl
  have r0 : Rd W0 T 1 A n (bs d) := by subst hW0; exact hr.alloc _
  have hbe : Below w.heap.size w W0 := by subst hW0; exact (Below.refl _ _).alloc (Nat.le_refl _) _
  have sof : ∀ W, Below W0.heap.size W0 W → (Below W0.heap.size W0 W ∧ W.cell? ⟨w.heap.size, 0, none⟩ = some (.int .i64 a) ∧ W.cell? ⟨w.heap.size, 1, none⟩ = some (.int .i64 b) ∧ W.cell? ⟨w.heap.size, 2, none⟩ = some (.int .i64 c) ∧ W.cell? ⟨w.heap.size, 3, none⟩ = some (.slice A n m)) :=
    fun W h => ⟨h, (b0.below h).c 0, (b0.below h).c 1, (b0.below h).c 2, (b0.below h).c 3⟩
  have la := uintL_len (uN a) (uN_lt a)
  have lb := uintL_len (uN b) (uN_lt b)
  have lc := uintL_len (uN c) (uN_lt c)
  have wa : IntKind.u64.wrap a = (uN a : Int) := uN_eq a
  have wb : IntKind.u64.wrap b = (uN b : Int) := uN_eq b
  have wc : IntKind.u64.wrap c = (uN c : Int) := uN_eq c
  have s0 := sof _ (Below.refl _ _).drew
  have Sof := Lib.hid sof
  have Hbe := Lib.hid hbe
  have HW := Lib.hid hW0
  have R0 := Lib.hid r0
  have Ls := Lib.hid (And.intro la (And.intro lb lc))
  clear hr b0 r0 hbe hW0 sof la lb lc
  go_enter Tryz.func42, Tryz.ntmps42
  go_upto_region 1 with (fail)
  rw [← HW.out]
  refine wp_region_M 15 (fun W => Below W0.heap.size W0 W ∧ W.cell? ⟨w.heap.size, 0, none⟩ = some (.int .i64 a) ∧ W.cell? ⟨w.heap.size, 1, none⟩ = some (.int .i64 b) ∧ W.cell? ⟨w.heap.size, 2, none⟩ = some (.int .i64 c) ∧ W.cell? ⟨w.heap.size, 3, none⟩ = some (.slice A n m)) (by kernel_rfl) s0 (fun hS => ?_)
  refine wpAnyM_take (i := 0) (v := ?_) rfl (by kernel_rfl) (by kernel_rfl) (by kernel_rfl) (by kernel_rfl) (fun _ _ _ h => h) hS (by rfl) ?_ ?_
  rotate_left
  · rintro W ⟨-, s1, s2, s3, s4⟩
    go_simp
    try with_reducible rfl
  try simp only [Act.put, List.setIfInBounds_toArray, List.set_cons_zero, List.set_cons_succ]
  refine wpAnyM_take (i := 1) (v := ?_) rfl (by kernel_rfl) (by kernel_rfl) (by kernel_rfl) (by kernel_rfl) (fun _ _ _ h => h) hS (by rfl) ?_ ?_
  rotate_left
  · rintro W ⟨-, s1, s2, s3, s4⟩
    go_simp
    try with_reducible rfl
  try simp only [Act.put, List.setIfInBounds_toArray, List.set_cons_zero, List.set_cons_succ]
  refine wpAnyM_take (i := 2) (v := ?_) rfl (by kernel_rfl) (by kernel_rfl) (by kernel_rfl) (by kernel_rfl) (fun _ _ _ h => h) hS (by rfl) ?_ ?_
  rotate_left
  · rintro W ⟨-, s1, s2, s3, s4⟩
    go_simp
    try with_reducible rfl
  try simp only [Act.put, List.setIfInBounds_toArray, List.set_cons_zero, List.set_cons_succ]
  refine wpAnyM_take (i := 4) (v := ?_) rfl (by kernel_rfl) (by kernel_rfl) (by kernel_rfl) (by kernel_rfl) (fun _ _ _ h => h) hS (by rfl) ?_ ?_
  rotate_left
  · rintro W ⟨-, s1, s2, s3, s4⟩
    go_simp
    try with_reducible rfl
  try simp only [Act.put, List.setIfInBounds_toArray, List.set_cons_zero, List.set_cons_succ]
  refine wpAnyM_take (i := 5) (v := ?_) rfl (by kernel_rfl) (by kernel_rfl) (by kernel_rfl) (by kernel_rfl) (fun _ _ _ h => h) hS (by rfl) ?_ ?_
  rotate_left
  · rintro W ⟨-, s1, s2, s3, s4⟩
    go_simp
    try with_reducible rfl
  try simp only [Act.put, List.setIfInBounds_toArray, List.set_cons_zero, List.set_cons_succ]
  refine wpAnyM_take (i := 6) (v := ?_) rfl (by kernel_rfl) (by kernel_rfl) (by kernel_rfl) (by kernel_rfl) (fun _ _ _ h => h) hS (by rfl) ?_ ?_
  rotate_left
  · rintro W ⟨-, s1, s2, s3, s4⟩
    go_simp
    try with_reducible rfl
  try simp only [Act.put, List.setIfInBounds_toArray, List.set_cons_zero, List.set_cons_succ]
  refine wpAnyM_take (i := 8) (v := ?_) rfl (by kernel_rfl) (by kernel_rfl) (by kernel_rfl) (by kernel_rfl) (fun _ _ _ h => h) hS (by rfl) ?_ ?_
  rotate_left
  · rintro W ⟨-, s1, s2, s3, s4⟩
    go_simp
    try with_reducible rfl
  try simp only [Act.put, List.setIfInBounds_toArray, List.set_cons_zero, List.set_cons_succ]
  refine wpAnyM_take (i := 9) (v := ?_) rfl (by kernel_rfl) (by kernel_rfl) (by kernel_rfl) (by kernel_rfl) (fun _ _ _ h => h) hS (by rfl) ?_ ?_
  rotate_left
  · rintro W ⟨-, s1, s2, s3, s4⟩
    go_simp
    try with_reducible rfl
  try simp only [Act.put, List.setIfInBounds_toArray, List.set_cons_zero, List.set_cons_succ]
  refine wpAnyM_take (i := 10) (v := ?_) rfl (by kernel_rfl) (by kernel_rfl) (by kernel_rfl) (by kernel_rfl) (fun _ _ _ h => h) hS (by rfl) ?_ ?_
  rotate_left
  · rintro W ⟨-, s1, s2, s3, s4⟩
    go_simp
    try with_reducible rfl
  try simp only [Act.put, List.setIfInBounds_toArray, List.set_cons_zero, List.set_cons_succ]
  refine wpAnyM_take (i := 12) (v := ?_) rfl (by kernel_rfl) (by kernel_rfl) (by kernel_rfl) (by kernel_rfl) (fun _ _ _ h => h) hS (by rfl) ?_ ?_
  rotate_left
  · rintro W ⟨-, s1, s2, s3, s4⟩
    go_simp
    try with_reducible rfl
  try simp only [Act.put, List.setIfInBounds_toArray, List.set_cons_zero, List.set_cons_succ]
  refine wpAnyM_take (i := 13) (v := ?_) rfl (by kernel_rfl) (by kernel_rfl) (by kernel_rfl) (by kernel_rfl) (fun _ _ _ h => h) hS (by rfl) ?_ ?_
  rotate_left
  · rintro W ⟨-, s1, s2, s3, s4⟩
    go_simp
    try with_reducible rfl
  try simp only [Act.put, List.setIfInBounds_toArray, List.set_cons_zero, List.set_cons_succ]
  refine wpAnyM_one (i := 3) (by kernel_rfl) rfl (fun K hK => ?_)
  go_simp
  go_at_call 39
  refine (uintR_any none 0 0 [] (uN a) (uN_lt a) _ Rd.none_ (by omega)).mono ?_
  rintro e w1 ⟨A1, n1, c1, rfl, h1, hb1⟩
  have hS1 := Sof.out w1 (hS.1.trans (hb1.mono hS.1.size))
  have r1 := (Rd.of_own h1).any
  have l1 := r1.blen
  clear hS
  have hS := hS1
  have R1 := Lib.hid r1
  have L1 := Lib.hid l1
  have B1 := Lib.hid hb1
  have O1 := Lib.hid h1
  clear hS1 r1 l1 hb1 h1
  refine hK _ _ (fun _ => hS) ?_
  clear hK K
  try simp only [Act.put, List.setIfInBounds_toArray, List.set_cons_zero, List.set_cons_succ]
  refine wpAnyM_one (i := 7) (by kernel_rfl) rfl (fun K hK => ?_)
  go_simp
  go_at_call 39
  refine (uintR_any A1 n1 c1 _ (uN b) (uN_lt b) _ R1.out (by have := L1.out; have := Ls.out.1; simp at *; omega)).mono ?_
  rintro e w2 ⟨A2, n2, c2, rfl, h2, hb2⟩
  have hS2 := Sof.out w2 (hS.1.trans (hb2.mono hS.1.size))
  have r2 := (Rd.of_own h2).any
  have l2 := r2.blen
  clear hS
  have hS := hS2
  have R2 := Lib.hid r2
  have L2 := Lib.hid l2
  have B2 := Lib.hid hb2
  have O2 := Lib.hid h2
  clear hS2 r2 l2 hb2 h2
  refine hK _ _ (fun _ => hS) ?_
  clear hK K
  try simp only [Act.put, List.setIfInBounds_toArray, List.set_cons_zero, List.set_cons_succ]
  refine wpAnyM_one (i := 11) (by kernel_rfl) rfl (fun K hK => ?_)
  go_simp
  go_at_call 39
  refine (uintR_any A2 n2 c2 _ (uN c) (uN_lt c) _ R2.out (by have := L2.out; have := Ls.out.1; have := Ls.out.2.1; simp at *; omega)).mono ?_
  rintro e w3 ⟨A3, n3, c3, rfl, h3, hb3⟩
  have hS3 := Sof.out w3 (hS.1.trans (hb3.mono hS.1.size))
  have r3 := (Rd.of_own h3).any
  have l3 := r3.blen
  clear hS
  have hS := hS3
  have R3 := Lib.hid r3
  have L3 := Lib.hid l3
  have B3 := Lib.hid hb3
  have O3 := Lib.hid h3
  clear hS3 r3 l3 hb3 h3
  refine hK _ _ (fun _ => hS) ?_
  clear hK K
  try simp only [Act.put, List.setIfInBounds_toArray, List.set_cons_zero, List.set_cons_succ]
  refine wpAnyM_one (i := 14) (by kernel_rfl) rfl (fun K hK => ?_)
  go_simp
  go_at_call 40
  refine (bytesR_any A3 n3 c3 _ A n m d _ R3.out (by have := L3.out; have := Ls.out.1; have := Ls.out.2.1; have := Ls.out.2.2; simp at *; omega) (R0.out.below hS.1) (by omega)).mono ?_
  rintro e w4 ⟨A4, n4, c4, rfl, h4, hb4⟩
  have hS4 := Sof.out w4 (hS.1.trans (hb4.mono hS.1.size))
  have r4 := (Rd.of_own h4).any
  have l4 := r4.blen
  clear hS
  have hS := hS4
  have R4 := Lib.hid r4
  have L4 := Lib.hid l4
  have B4 := Lib.hid hb4
  have O4 := Lib.hid h4
  clear hS4 r4 l4 hb4 h4
  refine hK _ _ (fun _ => hS) ?_
  clear hK K
  try simp only [Act.put, List.setIfInBounds_toArray, List.set_cons_zero, List.set_cons_succ]
  refine wpAnyM_one (i := 15) (by kernel_rfl) rfl (fun K hK => ?_)
  go_simp
  refine hK _ _ (fun h => absurd rfl h) ?_
  clear hK K
  refine wpAnyM_done (by kernel_rfl) ?_ _
  go_wp2_with fail
  go_ret
  have hz := B1.out.size
  exact ⟨A4, n4, c4, rfl, own_lo O4.out (by have h1 := B3.out.size; have h2 := B2.out.size; have h3 := Hbe.out.size; have h4 : W0.drew.heap.size = W0.heap.size := rfl; omega), Hbe.out.trans (hS.1.mono Hbe.out.size)⟩
end Go.Proofs.YtlecglmiigdjlaaGreatDoor
