/- Walks of the document's Put and Sync. -/
import Derived.Test.YtefhkhocbcnbcaaDoorR3N
namespace Go.Proofs.YtefhkhocbcnbcaaDoor
open Go.RowKit
set_option maxRecDepth 100000
set_option linter.unusedVariables false
set_option linter.unusedSimpArgs false
theorem own_cap3 {w : World} {B : Nat} {e : TypeId} {size n c : Nat} {A : Option Addr} {xs : List Value} (h : w.ownsRow B e size (.slice A n c) n xs) : n ≤ c ∧ c ≤ maxLen := by
  obtain ⟨A', c', e, h1, h2⟩ := own_form h
  injection e with _ _ e
  subst e
  exact ⟨h1, h2⟩
section
variable {ok : Nat → Prop} {R : R3} {BA LA : Option Addr} {bn bc ln lc : Nat} {ls : List Wq}
set_option maxHeartbeats 3200000 in
theorem put3_any (p : Int) (A : Option Addr) (n c : Nat) (d : List UInt8) (hp : I64 p) (w : World) (h : RS w ok R BA bn bc LA ln lc ls) (hr : Rd w ok 1 A n (bs d)) (hnc : n ≤ c ∧ c ≤ maxLen) (hbn : bn ≤ 4194304) (hln : ln ≤ 1000000) (ha : -1 ≤ R.armed ∧ R.armed ≤ 9223372036854775807) :
    Calls Tryd.prog 25 #[rval R BA bn bc LA ln lc, .int .i64 p, .slice A n c] w (R3Post w ok (R.put p d).1 (R.put p d).2) := by
  have hm63 := hnc
  have hmx : maxLen = 9223372036854775807 := by decide
  have hdn := hr.blen
  have hbad := fun w1 => bad_any (BA := BA) (bc := bc) (LA := LA) (ln := ln) (lc := lc) p n hp (by unfold I64; omega) w1 h.blen hbn
  have hb0 : Below w.heap.size w ((w.alloc (.cells #[.slice BA bn bc, .slice LA ln lc, .int .i64 R.armed, .bool R.off] 31)).alloc (.cells #[.slice none 0 0, .slice none 0 0, .int .i64 0, .bool false] 31)) := ((Below.refl _ _).alloc (Nat.le_refl _) _).alloc (by simp) _
  obtain ⟨W0, hW0⟩ : ∃ W0, W0 = ((w.alloc (.cells #[.slice BA bn bc, .slice LA ln lc, .int .i64 R.armed, .bool R.off] 31)).alloc (.cells #[.slice none 0 0, .slice none 0 0, .int .i64 0, .bool false] 31)) := ⟨_, rfl⟩
  have x0 : Bx W0 w.heap.size #[.slice BA bn bc, .slice LA ln lc, .int .i64 R.armed, .bool R.off] := by subst hW0; exact (Bx.new _ _ _ rfl).alloc _
  have x1 : Bx W0 (w.heap.size + 1) #[.slice none 0 0, .slice none 0 0, .int .i64 0, .bool false] := by subst hW0; exact Bx.new _ _ _ (by simp)
  rw [← hW0] at hb0
  have X0 := Lib.hid x0
  have X1 := Lib.hid x1
  have Hb0 := Lib.hid hb0
  have HW0 := Lib.hid hW0
  have H := Lib.hid h
  have Hr := Lib.hid hr
  unfold R3.put
  rw [hdn]
  by_cases h0 : R.bad p n = 0
  · rw [if_pos h0]
    rw [h0] at hbad
    dsimp only
    have hp0 : 0 ≤ p := by
      unfold R3.bad at h0
      split at h0
      · cases h0
      · omega
    have Hbad := Lib.hid hbad
    obtain ⟨R2, hR2⟩ : ∃ R2 : R3, R2 = { R with l := R.l ++ [(p.toNat, d)] } := ⟨_, rfl⟩
    have hst := fun w1 LA2 lc2 => step3_any (R := R2) (BA := BA) (bn := bn) (bc := bc) (LA := LA2) (ln := ln + 1) (lc := lc2) w1 (by rw [hR2]; exact ha.1) (by rw [hR2]; exact ha.2)
    have eE : R2.stepE = R.stepE := by rw [hR2]; rfl
    rw [eE] at hst
    have eA : R2.armed = R.armed := by rw [hR2]
    have eO : R2.off = R.off := by rw [hR2]
    unfold rval at hst
    rw [eA, eO] at hst
    rw [← hR2]
    have key : ∀ W A2 lc2, Below w.heap.size w W → Rd W (w.heap.size ≤ ·) 2 A2 (ln + 1) (flat wcell ls ++ [.int .i64 p, .slice A n c]) → ln + 1 ≤ lc2 ∧ lc2 ≤ maxLen → R3Post w ok R2.stepped R.stepE (.returned (.tuple #[rval R2.stepped BA bn bc A2 (ln + 1) lc2, .int .i64 R.stepE])) W := by
      intro W A2 lc2 hb hr2 hlc
      have e1 : R2.stepped.b = R.b := by rw [hR2]; unfold R3.stepped; split; rfl; split <;> rfl
      have e2 : R2.stepped.l = R.l ++ [(p.toNat, d)] := by rw [hR2]; unfold R3.stepped; split; rfl; split <;> rfl
      obtain ⟨p', hp'⟩ := Int.eq_ofNat_of_zero_le hp0
      have hh := (H.out.below hb)
      refine ⟨_, rfl, ⟨BA, bn, bc, A2, ln + 1, lc2, ls ++ [⟨p', A, n, c, d⟩], rfl, ⟨by rw [e1]; exact hh.b.mono fun _ hb => .inl hb, ?_, fun y hy => ?_, ?_, hh.bc, hlc⟩⟩, hb⟩
      · rw [flat_append, flat_one]
        have e3 : wcell ⟨p', A, n, c, d⟩ = [.int .i64 p, .slice A n c] := by rw [hp']; rfl
        rw [e3]
        exact hr2.mono fun _ hb => .inr hb
      · rcases List.mem_append.1 hy with h1 | h1
        · exact ⟨(hh.d y h1).1.mono fun _ hb => .inl hb, (hh.d y h1).2⟩
        · obtain rfl := List.mem_singleton.1 h1
          exact ⟨(Hr.out.below hb).mono fun _ hb => .inl hb, hnc⟩
      · rw [List.map_append, hh.q, e2, hp']
        rfl
    have Key := Lib.hid key
    have Hst := Lib.hid hst
    clear h hr hbad h0 hW0 hb0 x0 x1 key hst eE eA eO hR2
    unfold rval at Hbad Key ⊢
    go_enter Tryd.func25, Tryd.ntmps25
    go_wp2_with fail
    rw [← HW0.out]
    refine (Hbad.out _).mono ?_
    rintro e w1 ⟨rfl, hb1⟩
    obtain ⟨y0, y1, y2, y3, f0, f1, f2, f3⟩ := (X0.out.below hb1).c4
    have hbw := Hb0.out.trans (hb1.mono Hb0.out.size)
    have hlr := (H.out.below hbw).l.hm ln
    have hlcc := H.out.lc
    have hsl : ∀ W : World, (Instr.sliceAt 29 (.slice LA ln lc) none (some (.int .i64 (ln : Int))) (some (.int .i64 (ln : Int)))).run Tryd.prog W = .ok (.slice (if ln = 0 then LA else LA.map (·.add (0 * 2))) ln ln) W := fun W => run_slice_hm' (P := Tryd.prog) 29 Tryd.underlying29 (size := 2) (by kernel_rfl) LA ln lc ln ln (Nat.le_refl _) hlcc.1 W
    obtain ⟨L3, hL3⟩ : ∃ L3, L3 = (if ln = 0 then LA else LA.map (·.add (0 * 2))) := ⟨_, rfl⟩
    rw [← hL3] at hsl hlr
    have hnone : L3 = none → ln = 0 := by
      intro e
      rw [e] at hlr
      exact hlr.nil_of_none.1
    have Hlr := Lib.hid hlr
    have Hnone := Lib.hid hnone
    have Hbw := Lib.hid hbw
    have Hb1 := Lib.hid hb1
    clear hb1 hbw hlr hL3 hnone
    go_wp2_with (refine wpList_append_full _ Tryd.underlying29 rw3_elem rfl (by omega) rfl rfl rfl (Hlr.out.alloc _) Hnone.out rfl (show Rd (w1.alloc (.cells #[.int .i64 p, .slice A n c] 76)) T 2 (some ⟨w1.heap.size, 0, none⟩) 1 [.int .i64 p, .slice A n c] from (Rd.wlit _ _ rfl)) (by omega) (by intro u hu; simp only [List.mem_cons, List.not_mem_nil, or_false] at hu; rcases hu with rfl | rfl <;> rfl) (by omega) (by omega) rfl rfl ?_; intro A4 c4 w4 hown4 hb4; have hb4' := ((Below.refl w1.heap.size w1).alloc (Nat.le_refl _) (.cells #[.int .i64 p, .slice A n c] 76)).trans (hb4.mono (by simp)); obtain ⟨v0, v1, v2, v3, g0, g1, g2, g3⟩ := ((X0.out.below Hb1.out).below hb4').c4)
    go_wp2_with fail
    refine (Hst.out _ A4 c4).mono ?_
    rintro e w5 ⟨rfl, hb5⟩
    obtain ⟨z0, z1, z2, z3, e0, e1, e2, e3⟩ := ((((X1.out.below Hb1.out).below hb4').far (p := ⟨w.heap.size, 1, none⟩) (by show w.heap.size + 1 ≠ w.heap.size; omega) (.slice A4 (ln + 1) c4)).below hb5).c4
    have hw4 : Below w.heap.size w w4 := Hbw.out.trans (hb4'.mono Hbw.out.size)
    have hw5 : Below w.heap.size w w5 := (hw4.setCell (p := ⟨w.heap.size, 1, none⟩) (Nat.le_refl _) (.slice A4 (ln + 1) c4)).trans (hb5.mono (by have := hw4.size; simp [World.setCell]; omega))
    have r4 : Rd w4 (w.heap.size + 2 ≤ ·) 2 A4 (ln + 1) (flat wcell ls ++ [.int .i64 p, .slice A n c]) := (Rd.of_own hown4).mono fun b hb => by
      have := Hb1.out.size
      have h0 : W0.heap.size = w.heap.size + 2 := by rw [HW0.out]; simp
      simp at hb
      omega
    have r5 := (r4.setCell (p := ⟨w.heap.size, 1, none⟩) (by show ¬ (w.heap.size + 2 ≤ w.heap.size); omega) (.slice A4 (ln + 1) c4)).below hb5
    have R5 := Lib.hid r5
    have Hw5 := Lib.hid hw5
    have Hcap := Lib.hid (own_cap3 hown4)
    have Hhb5 := Lib.hid hb5
    clear r4 r5 hw4 hw5 hb5 hb4' hb4 hown4 v0 v1 v2 v3 g0 g1 g2 g3
    go_wp2_with fail
    refine bodyPost_ret (by simp [results, Tryd.results25, go_sem, z0, z1, z2, z3]; rfl) rfl ?_
    refine Key.out _ A4 c4 ?_ ((((((R5.out.setCell (by show ¬ (w.heap.size + 2 ≤ w.heap.size + 1); omega) _).setCell (by show ¬ (w.heap.size + 2 ≤ w.heap.size + 1); omega) _).setCell (by show ¬ (w.heap.size + 2 ≤ w.heap.size + 1); omega) _).setCell (by show ¬ (w.heap.size + 2 ≤ w.heap.size + 1); omega) _)).mono fun b hb => by omega) Hcap.out
    exact (((Hw5.out.setCell (by show w.heap.size ≤ w.heap.size + 1; omega) _).setCell (by show w.heap.size ≤ w.heap.size + 1; omega) _).setCell (by show w.heap.size ≤ w.heap.size + 1; omega) _).setCell (by show w.heap.size ≤ w.heap.size + 1; omega) _
  · rw [if_neg h0]
    dsimp only
    have key := fun W (hb : Below w.heap.size w W) => R3Post.of (R' := R) (k := R.bad p n) H.out rfl rfl hb
    have Hbad := Lib.hid hbad
    generalize R.bad p n = k at h0 Hbad key ⊢
    have Key := Lib.hid key
    clear h hr hbad key hW0 hb0 x0 x1
    unfold rval at Hbad Key ⊢
    go_enter Tryd.func25, Tryd.ntmps25
    go_wp2_with fail
    rw [← HW0.out]
    refine (Hbad.out _).mono ?_
    rintro e w1 ⟨rfl, hb1⟩
    obtain ⟨y0, y1, y2, y3, -⟩ := (X0.out.below hb1).c4
    obtain ⟨z0, z1, z2, z3, f0, f1, f2, f3⟩ := (X1.out.below hb1).c4
    have hbw := Hb0.out.trans (hb1.mono Hb0.out.size)
    have Hbw := Lib.hid hbw
    clear hb1 hbw
    go_wp2_with fail
    refine bodyPost_ret (by simp [results, Tryd.results25, go_sem, z0, z1, z2, z3]; rfl) rfl ?_
    refine Key.out _ ?_
    have hs := Hbw.out.size
    exact (((Hbw.out.setCell (by show w.heap.size ≤ w.heap.size + 1; omega) _).setCell (by show w.heap.size ≤ w.heap.size + 1; omega) _).setCell (by show w.heap.size ≤ w.heap.size + 1; omega) _).setCell (by show w.heap.size ≤ w.heap.size + 1; omega) _
end
end Go.Proofs.YtefhkhocbcnbcaaDoor
