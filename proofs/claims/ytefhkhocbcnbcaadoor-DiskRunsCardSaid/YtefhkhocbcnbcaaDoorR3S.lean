/- Walks of the document's Sync, rest and New. -/
import Derived.Test.YtefhkhocbcnbcaaDoorR3P
namespace Go.Proofs.YtefhkhocbcnbcaaDoor
open Go.RowKit
set_option maxRecDepth 100000
set_option linter.unusedVariables false
set_option linter.unusedSimpArgs false
theorem stepped_b (R : R3) : R.stepped.b = R.b := by unfold R3.stepped; split; rfl; split <;> rfl
theorem stepped_l (R : R3) : R.stepped.l = R.l := by unfold R3.stepped; split; rfl; split <;> rfl
section
variable {ok : Nat → Prop} {R : R3} {BA LA : Option Addr} {bn bc ln lc : Nat} {ls : List Wq}
set_option maxHeartbeats 3200000 in
theorem sync3_any (w : World) (h : RS w ok R BA bn bc LA ln lc ls) (hf : Fit bn R.l) (hbn : bn ≤ 4194304) (hln : ln ≤ 1000000) (ha : -1 ≤ R.armed ∧ R.armed ≤ 9223372036854775807) :
    Calls Tryd.prog 21 #[rval R BA bn bc LA ln lc] w (R3Post w ok R.sync.1 R.sync.2) := by
  have hb0 : Below w.heap.size w ((w.alloc (.cells #[.slice BA bn bc, .slice LA ln lc, .int .i64 R.armed, .bool R.off] 31)).alloc (.cells #[.slice none 0 0, .slice none 0 0, .int .i64 0, .bool false] 31)) := ((Below.refl _ _).alloc (Nat.le_refl _) _).alloc (by simp) _
  obtain ⟨W0, hW0⟩ : ∃ W0, W0 = ((w.alloc (.cells #[.slice BA bn bc, .slice LA ln lc, .int .i64 R.armed, .bool R.off] 31)).alloc (.cells #[.slice none 0 0, .slice none 0 0, .int .i64 0, .bool false] 31)) := ⟨_, rfl⟩
  have x0 : Bx W0 w.heap.size #[.slice BA bn bc, .slice LA ln lc, .int .i64 R.armed, .bool R.off] := by subst hW0; exact (Bx.new _ _ _ rfl).alloc _
  have x1 : Bx W0 (w.heap.size + 1) #[.slice none 0 0, .slice none 0 0, .int .i64 0, .bool false] := by subst hW0; exact Bx.new _ _ _ (by simp)
  rw [← hW0] at hb0
  have X0 := Lib.hid x0
  have X1 := Lib.hid x1
  have Hb0 := Lib.hid hb0
  have HW0 := Lib.hid hW0
  have H := Lib.hid h
  unfold R3.sync
  by_cases hoff : R.off = true
  · rw [if_pos hoff]
    dsimp only
    have key := fun W (hb : Below w.heap.size w W) => R3Post.of (R' := R) (k := 13) H.out rfl rfl hb
    have Key := Lib.hid key
    clear h key hW0 hb0 x0 x1 hf
    unfold rval at Key ⊢
    rw [hoff] at Key X0 HW0 ⊢
    obtain ⟨y0, y1, y2, y3, -⟩ := X0.out.c4
    obtain ⟨z0, z1, z2, z3, f0, f1, f2, f3⟩ := X1.out.c4
    go_enter Tryd.func21, Tryd.ntmps21
    go_wp2_with fail
    refine bodyPost_ret (by simp [results, Tryd.results21, go_sem]; rfl) rfl ?_
    refine Key.out _ ?_
    repeat (first | exact Below.refl _ _ | refine Below.setCell ?_ (by simp) _ | refine Below.alloc ?_ (by first | (simp; done) | (simp; omega)) _)
  · rw [if_neg hoff]
    have hofff : R.off = false := by cases h : R.off; rfl; exact absurd h hoff
    have hst := fun w1 => step3_any (R := R) (BA := BA) (bn := bn) (bc := bc) (LA := LA) (ln := ln) (lc := lc) w1 ha.1 ha.2
    by_cases h0 : R.armed = 0
    · rw [if_pos h0]
      dsimp only
      have e1 : R.stepE = 13 := by unfold R3.stepE; rw [if_pos h0]
      rw [e1] at hst
      have key := fun W (hb : Below w.heap.size w W) => R3Post.of (R' := R.stepped) (k := 13) H.out (stepped_b R) (stepped_l R) hb
      have Key := Lib.hid key
      have Hst := Lib.hid hst
      clear h key hW0 hb0 x0 x1 hf hst h0 e1 ha hoff
      unfold rval at Key Hst ⊢
      rw [hofff] at Hst X0 HW0 ⊢
      go_enter Tryd.func21, Tryd.ntmps21
      go_wp2_with fail
      rw [← HW0.out]
      refine (Hst.out _).mono ?_
      rintro e w1 ⟨rfl, hb1⟩
      obtain ⟨y0, y1, y2, y3, g0, g1, g2, g3⟩ := (X0.out.below hb1).c4
      obtain ⟨z0, z1, z2, z3, f0, f1, f2, f3⟩ := (X1.out.below hb1).c4
      have hbw := Hb0.out.trans (hb1.mono Hb0.out.size)
      have Hbw := Lib.hid hbw
      clear hb1 hbw
      go_wp2_with fail
      refine bodyPost_ret (by simp [results, Tryd.results21, go_sem, z0, z1, z2, z3]; rfl) rfl ?_
      refine Key.out _ ?_
      have q : ∀ W k i v, Below w.heap.size w W → w.heap.size ≤ k → Below w.heap.size w (W.setCell ⟨k, i, none⟩ v) := fun W k i v h hk => h.setCell (by exact hk) v
      repeat (refine q _ _ _ _ ?_ (by omega))
      exact Hbw.out
    · rw [if_neg h0]
      dsimp only
      have e1 : R.stepE = 0 := by unfold R3.stepE; rw [if_neg h0]
      rw [e1] at hst
      have eo : R.stepped.off = false := by
        unfold R3.stepped
        rw [if_neg h0]
        split <;> exact hofff
      have hnow := fun w1 (hb : Below w.heap.size w w1) => now3_any (R := R.stepped) w1 ((h.below hb).re (stepped_b R) (stepped_l R)) (by rw [stepped_l]; exact hf) hbn hln
      have key : ∀ W A2 c2, Below w.heap.size w W → Rd W (w.heap.size ≤ ·) 1 A2 bn (bs R.stepped.now) → bn ≤ c2 ∧ c2 ≤ maxLen → R3Post w ok { R.stepped with b := R.stepped.now, l := [] } 0 (.returned (.tuple #[rval { R.stepped with b := R.stepped.now, l := [] } A2 bn c2 none 0 0, .int .i64 0])) W := fun W A2 c2 hb hr hc =>
        ⟨_, rfl, ⟨A2, bn, c2, none, 0, 0, [], rfl, ⟨hr.mono fun _ hb => .inr hb, Rd.none_, (fun y hy => by cases hy), rfl, hc, by omega⟩⟩, hb⟩
      obtain ⟨S, hS⟩ : ∃ S, S = R.stepped.now := ⟨_, rfl⟩
      unfold R3Post at key
      unfold rval at hst hnow key ⊢
      dsimp only at key
      rw [eo] at hst hnow key ⊢
      rw [← hS] at hnow key ⊢
      unfold NowPost at hnow
      obtain ⟨a1, ha1⟩ : ∃ a1, a1 = R.stepped.armed := ⟨_, rfl⟩
      rw [← ha1] at hst hnow key ⊢
      rw [hofff] at hst X0 HW0 ⊢
      have Key := Lib.hid key
      have Hst := Lib.hid hst
      have Hnow := Lib.hid hnow
      clear h key hW0 hb0 x0 x1 hf hst h0 e1 ha hoff hnow eo ha1 hS
      go_enter Tryd.func21, Tryd.ntmps21
      go_wp2_with fail
      rw [← HW0.out]
      refine (Hst.out _).mono ?_
      rintro e w1 ⟨rfl, hb1⟩
      obtain ⟨y0, y1, y2, y3, g0, g1, g2, g3⟩ := (X0.out.below hb1).c4
      have hbw := Hb0.out.trans (hb1.mono Hb0.out.size)
      have Hbw := Lib.hid hbw
      have Hb1 := Lib.hid hb1
      have hs5 : ∀ W k i v, Below w.heap.size w W → w.heap.size ≤ k → Below w.heap.size w (W.setCell ⟨k, i, none⟩ v) := fun W k i v h hk => h.setCell (by exact hk) v
      have Hs5 := Lib.hid hs5
      clear hb1 hbw hs5
      go_wp2_with fail
      have hb2 := Hs5.out _ w.heap.size 3 (.bool false) (Hs5.out _ w.heap.size 2 (.int .i64 a1) (Hs5.out _ w.heap.size 1 (.slice LA ln lc) (Hs5.out _ w.heap.size 0 (.slice BA bn bc) Hbw.out (Nat.le_refl _)) (Nat.le_refl _)) (Nat.le_refl _)) (Nat.le_refl _)
      have x2 := ((((X0.out.below Hb1.out).set 0 (.slice BA bn bc)).set 1 (.slice LA ln lc)).set 2 (.int .i64 a1)).set 3 (.bool false)
      have x3 := ((((X1.out.below Hb1.out).far (p := ⟨w.heap.size, 0, none⟩) (by show w.heap.size + 1 ≠ w.heap.size; omega) (.slice BA bn bc)).far (p := ⟨w.heap.size, 1, none⟩) (by show w.heap.size + 1 ≠ w.heap.size; omega) (.slice LA ln lc)).far (p := ⟨w.heap.size, 2, none⟩) (by show w.heap.size + 1 ≠ w.heap.size; omega) (.int .i64 a1)).far (p := ⟨w.heap.size, 3, none⟩) (by show w.heap.size + 1 ≠ w.heap.size; omega) (.bool false)
      have X2 := Lib.hid x2
      have X3 := Lib.hid x3
      have Hb2 := Lib.hid hb2
      clear x2 x3 hb2 y0 y1 y2 y3 g0 g1 g2 g3
      refine (Hnow.out _ Hb2.out).mono ?_
      rintro e w3 ⟨A3, c3, rfl, hown3, hb3⟩
      have x4 := (X2.out.below hb3)
      have x5 := (X3.out.below hb3)
      obtain ⟨y0, y1, y2, y3, g0, g1, g2, g3⟩ := Bx.c4 (a := .slice BA bn bc) (b := .slice LA ln lc) (c := .int .i64 a1) (d := .bool false) x4
      obtain ⟨z0, z1, z2, z3, f0, f1, f2, f3⟩ := x5.c4
      have hbw3 := Hb2.out.trans (hb3.mono Hb2.out.size)
      have Hbw3 := Lib.hid hbw3
      have r3 : Rd w3 (w.heap.size + 2 ≤ ·) 1 A3 bn (bs S) := (Rd.of_own hown3).mono fun b hb => by
        have := Hb1.out.size
        have h0 : W0.heap.size = w.heap.size + 2 := by rw [HW0.out]; simp
        simp [World.setCell] at hb
        omega
      have R3_ := Lib.hid r3
      have Hcap := Lib.hid (own_cap3 hown3)
      clear x4 x5 hbw3 hb3 hown3 r3
      go_wp2_with fail
      refine bodyPost_ret (by simp [results, Tryd.results21, go_sem, z0, z1, z2, z3]; rfl) rfl ?_
      unfold R3Post
      refine Key.out _ A3 c3 ?_ ?_ Hcap.out
      · repeat (refine Hs5.out _ _ _ _ ?_ (by omega))
        exact Hbw3.out
      · have q : ∀ W k i v, Rd W (w.heap.size + 2 ≤ ·) 1 A3 bn (bs S) → k < w.heap.size + 2 → Rd (W.setCell ⟨k, i, none⟩ v) (w.heap.size + 2 ≤ ·) 1 A3 bn (bs S) := fun W k i v h hk => h.setCell (by show ¬ (w.heap.size + 2 ≤ k); omega) v
        refine Rd.mono (ok := (w.heap.size + 2 ≤ ·)) ?_ fun b hb => by omega
        repeat (refine q _ _ _ _ ?_ (by omega))
        exact R3_.out
/-- A remainder of a list. -/
theorem rest3_any (A : Option Addr) (n c : Nat) (keep : List Int) (i m : Nat) (w : World) (hr : Rd w T 1 A n (ii keep)) (hk : ∀ x ∈ keep, I64 x) (hi : i ≤ 1) (hm : m ≤ 4611686018427387904) :
    Calls Tryd.prog 35 #[.slice A n c, .int .i64 i, .int .i64 (m + 1 : Nat)] w (fun e w' => e = .returned (.int .i64 (restL keep i (m + 1) : Nat)) ∧ w' = w) := by
  have hl : keep.length = n := by have := hr.1; simp [ii] at this; omega
  unfold restL
  by_cases h : n ≤ i
  · have h' : (n : Int) ≤ i := by omega
    rw [List.getElem?_eq_none (by omega)]
    go_enter Tryd.func35, Tryd.ntmps35
    go_wp2_with fail
    go_ret
    exact ⟨rfl, rfl⟩
  · obtain ⟨b, o, rfl, _, hb, hc⟩ := hr.plain (by omega) (by omega)
    obtain ⟨x, hx⟩ : ∃ x, keep[i]? = some x := ⟨_, List.getElem?_eq_getElem (by omega)⟩
    have hx' := hk x (List.mem_of_getElem? hx)
    have c0 : w.cell? ⟨b, o + i, none⟩ = some (.int .i64 x) := hc i _ (by simp [ii, hx])
    rw [hx]
    have hm1 : (0 : Int) < ((m + 1 : Nat) : Int) := by omega
    have r1 := Int.tmod_lt_of_pos x hm1
    have r2 : -((m + 1 : Nat) : Int) < x.tmod ((m + 1 : Nat) : Int) := by
      have := Int.lt_tmod_of_pos x hm1
      omega
    obtain ⟨t, ht⟩ : ∃ t, t = x.tmod ((m + 1 : Nat) : Int) := ⟨_, rfl⟩
    have e2 : (if t < 0 then t + ((m + 1 : Nat) : Int) else t) = ((x % ((m + 1 : Nat) : Int)).toNat : Int) := by
      rw [Int.toNat_of_nonneg (Int.emod_nonneg _ (by omega))]
      have h3 : x % ((m + 1 : Nat) : Int) = (if t < 0 then t + ((m + 1 : Nat) : Int) else t) % ((m + 1 : Nat) : Int) := by
        have h4 : t % ((m + 1 : Nat) : Int) = x % ((m + 1 : Nat) : Int) := by
          rw [ht, Int.tmod_def, Int.sub_emod, Int.mul_emod_right]
          simp
        split
        · rw [Int.add_emod_right, h4]
        · exact h4.symm
      rw [h3]
      exact (Int.emod_eq_of_lt (by split <;> omega) (by split <;> omega)).symm
    obtain ⟨M, hM⟩ : ∃ M : Int, M = ((m + 1 : Nat) : Int) := ⟨_, rfl⟩
    rw [← hM] at ht e2 r1 r2 hm1 ⊢
    dsimp only
    rw [← ht] at r1 r2
    have hM2 : M ≤ 4611686018427387905 := by omega
    have hw1 : Int.tmod x M = t := ht.symm
    obtain ⟨res, hres⟩ : ∃ res : Nat, res = (x % M).toNat := ⟨_, rfl⟩
    rw [← hres] at e2 ⊢
    have hin : (i : Int) < n := by omega
    have hM0 : ¬ M = 0 := by omega
    unfold I64 at hx'
    clear hres hM ht
    have E2 := Lib.hid e2
    have W1 := Lib.hid hw1
    by_cases ht0 : t < 0
    · rw [if_pos ht0] at e2
      have a1 : -9223372036854775808 ≤ t + M := by omega
      have a2 : t + M < 9223372036854775808 := by omega
      go_enter Tryd.func35, Tryd.ntmps35
      go_wp2_with fail
      go_ret
      exact ⟨rfl, rfl⟩
    · rw [if_neg ht0] at e2
      have ht1 : decide (t < 0) = false := by simp; omega
      go_enter Tryd.func35, Tryd.ntmps35
      go_wp2_with fail
      go_ret
      exact ⟨rfl, rfl⟩
end
/-- New: a size that is none, or a disk of noughts. -/
def New3Post (W : World) (z : Int) (e : Ending) (w' : World) : Prop := Below W.heap.size W w' ∧ (((z < 1 ∨ 4194304 < z) ∧ e = .returned (.tuple #[.agg #[.slice none 0 0, .slice none 0 0, .int .i64 0, .bool false], .int .i64 1])) ∨
  (1 ≤ z ∧ z ≤ 4194304 ∧ ∃ v, e = .returned (.tuple #[v, .int .i64 0]) ∧ RX w' (W.heap.size ≤ ·) v (R3.make z.toNat)))
theorem new3_any (z : Int) (hz : I64 z) (w : World) : Calls Tryd.prog 7 #[.int .i64 z] w (New3Post w z) := by
  unfold I64 at hz
  by_cases h1 : z < 1
  · go_enter Tryd.func7, Tryd.ntmps7
    go_wp2_with fail
    refine bodyPost_ret (by simp [results, Tryd.results7, go_sem]; rfl) rfl ?_
    refine ⟨?_, .inl ⟨.inl h1, rfl⟩⟩
    repeat (first | exact Below.refl _ _ | refine Below.setCell ?_ (by simp) _ | refine Below.alloc ?_ (by first | (simp; done) | (simp; omega)) _)
  · have h1d : decide (z < 1) = false := by simp; omega
    by_cases h2 : 4194304 < z
    · go_enter Tryd.func7, Tryd.ntmps7
      go_wp2_with fail
      refine bodyPost_ret (by simp [results, Tryd.results7, go_sem]; rfl) rfl ?_
      refine ⟨?_, .inl ⟨.inr h2, rfl⟩⟩
      repeat (first | exact Below.refl _ _ | refine Below.setCell ?_ (by simp) _ | refine Below.alloc ?_ (by first | (simp; done) | (simp; omega)) _)
    · have h2d : decide ((4194304 : Int) < z) = false := by simp; omega
      obtain ⟨n, rfl⟩ := Int.eq_ofNat_of_zero_le (by omega : 0 ≤ z)
      obtain ⟨i, hi, hz, hsize, hby⟩ := info_parts u8_elem
      have hmk : ∀ w : World, (Instr.makeSlice 28 (.int .i64 (n : Int)) (.int .i64 (n : Int))).run Tryd.prog w = .ok (.slice (some ⟨w.heap.size, 0, none⟩) n n) (w.alloc (.cells (madeCells #[.int .u8 0] n) 5)) := by
        intro w
        have hr := run_make (P := Tryd.prog) w 28 5 i (.int .u8 0) Tryd.underlying28 hi hz .i64 .i64 n n (by omega) (Int.le_refl _) (by rw [hby]; omega) (by omega)
        simp only [Int.toNat_natCast, hsize, Nat.mul_one] at hr
        exact hr
      clear hi hz hsize hby
      go_enter Tryd.func7, Tryd.ntmps7
      go_wp2_with fail
      refine bodyPost_ret (by simp [results, Tryd.results7, go_sem]; rfl) rfl ?_
      refine ⟨?_, .inr ⟨by omega, by omega, _, rfl, _, _, _, none, 0, 0, [], rfl, ⟨?_, Rd.none_, (fun y hy => by cases hy), rfl, ⟨Nat.le_refl _, by unfold maxLen; omega⟩, by omega⟩⟩⟩
      · repeat (first | exact Below.refl _ _ | refine Below.alloc ?_ (by first | (simp; done) | (simp; omega)) _)
      · show Rd _ _ 1 _ n (bs (List.replicate n 0))
        rw [← bs_noughts]
        have := Rd.lit (w := w.alloc (.cells #[.slice (some ⟨w.heap.size + 1, 0, none⟩) n n, .slice none 0 0, .int .i64 (-1), .bool false] 31)) (cs := madeCells #[.int .u8 0] n) (t := 5) (fr := (0, 0)) (k := n) (by rw [size_madeCells])
        rw [World.size_alloc] at this
        exact this.mono fun b hb => by omega
end Go.Proofs.YtefhkhocbcnbcaaDoor
