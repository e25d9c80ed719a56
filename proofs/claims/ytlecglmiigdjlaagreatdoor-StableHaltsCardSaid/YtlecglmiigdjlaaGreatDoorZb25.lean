/- Walk: (*stable.Keeper).Save. (Printed by mksave.py.) -/
import Derived.Test.YtlecglmiigdjlaaGreatDoorZb23
import Derived.Test.YtlecglmiigdjlaaGreatDoorZb24
namespace Go.Proofs.YtlecglmiigdjlaaGreatDoor
open Go.RowKit
set_option maxRecDepth 100000
set_option linter.unusedVariables false
set_option linter.unusedSimpArgs false
variable {fb : Nat}
def Kp.save (K : Kp) (D : Dk) (s : St) : Kp × Dk × Int := if K.dead ≠ 0 then (K, D, K.dead) else if s = K.now then (K, D, 0) else if s.may = true then K.lay D s else (K, D, 1)
section
variable {L : Nat → Prop} {k g t0 t1 : Nat} {K : Kp} {z : Sv} {D : Dk} {sz : Nat}
theorem klay_any (w : World) (h : KX fb w L k g t0 t1 K z D sz) (s : Sv) (hs : s.At w (fun b => ¬ L b ∧ b ≠ t0 ∧ b ≠ t1 ∧ b ≠ k)) (hf : s.Fit) (hm : s.st.may = true) (htab : TabW w) (hn : K.n ≤ 1000000000) (hq : D.q.length ≤ 900000) :
    Calls Tryz.prog 29 #[.pointer (some ⟨k, 0, none⟩), s.val] w (LayP fb w L k g t0 t1 (K.lay D s.st) sz) := by
  cases hon : K.on
  · exact lay_false w h hon s hs hf hm htab hn hq
  · exact lay_true w h hon s hs hf hm htab hn hq
theorem LayP.up {w W0 w' : World} {r : Kp × Dk × Int} {e : Ending} (hb : Below w.heap.size w W0) (h : LayP fb W0 L k g t0 t1 r sz e w') : LayP fb w L k g t0 t1 r sz e w' := by
  obtain ⟨h1, z', h2⟩ := h
  exact ⟨h1, z', KAft.up hb h2⟩
set_option maxHeartbeats 3200000 in
theorem save_any (w : World) (h : KX fb w L k g t0 t1 K z D sz) (s : Sv) (hs : s.At w (fun b => ¬ L b ∧ b ≠ t0 ∧ b ≠ t1 ∧ b ≠ k)) (hf : s.Fit) (htab : TabW w) (hev : EvW w w.heap.size) (hn : K.n ≤ 1000000000) (hq : D.q.length ≤ 900000) :
    Calls Tryz.prog 7 #[.pointer (some ⟨k, 0, none⟩), s.val] w (LayP fb w L k g t0 t1 (K.save D s.st) sz) := by
  obtain ⟨W0, hW0⟩ : ∃ W0, W0 = w.alloc (.cells s.cells 35) := ⟨_, rfl⟩
  have b0 : Bx W0 w.heap.size s.cells := by subst hW0; exact Bx.new _ _ _ rfl
  have hbe : Below w.heap.size w W0 := by subst hW0; exact (Below.refl _ _).alloc (Nat.le_refl _) _
  have hz0 : W0.heap.size = w.heap.size + 1 := by subst hW0; simp
  have h0 := h.below hbe
  have a0 := hs.below hbe
  have hsm := same_any s z W0.drew a0.drew h0.at_.drew hf h.fit
  rw [h.st] at hsm
  have hmy := fun W (hb : Below W0.heap.size W0 W) => kmay_any s W (a0.below hb) hf ((hev.below hbe (Nat.le_refl _) |>.mono (by omega)).below hb (Nat.le_refl _) |>.mono hb.size)
  have hla := fun W (hb : Below W0.heap.size W0 W) (hm : s.st.may = true) => klay_any W (h0.below hb) s (a0.below hb) hf hm ((htab.below hbe (Nat.le_refl _)).below hb (Nat.le_refl _)) hn hq
  have F : ∀ W, Below W0.heap.size W0 W → (W.cell? ⟨w.heap.size, 0, none⟩ = some (.int .i64 s.tm) ∧ W.cell? ⟨w.heap.size, 1, none⟩ = some (.int .i64 s.vt) ∧ W.cell? ⟨w.heap.size, 2, none⟩ = some (.int .i64 s.b) ∧ W.cell? ⟨w.heap.size, 3, none⟩ = some (.int .i64 s.t) ∧ W.cell? ⟨w.heap.size, 4, none⟩ = some (.slice s.A s.n s.c) ∧ W.cell? ⟨w.heap.size, 5, none⟩ = some (.slice s.C s.nc s.cc) ∧ W.cell? ⟨w.heap.size, 6, none⟩ = some (.slice s.S s.ns s.cs)) ∧ (W.cell? ⟨k, 6, none⟩ = some (.int .i64 z.tm) ∧ W.cell? ⟨k, 7, none⟩ = some (.int .i64 z.vt) ∧ W.cell? ⟨k, 8, none⟩ = some (.int .i64 z.b) ∧ W.cell? ⟨k, 9, none⟩ = some (.int .i64 z.t) ∧ W.cell? ⟨k, 10, none⟩ = some (.slice z.A z.n z.c) ∧ W.cell? ⟨k, 11, none⟩ = some (.slice z.C z.nc z.cc) ∧ W.cell? ⟨k, 12, none⟩ = some (.slice z.S z.ns z.cs)) := fun W hb => ⟨Sv.c7 (b0.below hb), (h0.below hb).cs⟩
  have c13 : W0.cell? ⟨k, 13, none⟩ = some (errD K.dead) := h0.kb.c 13
  have FF := Lib.hid F
  have HW := Lib.hid hW0
  have B := Lib.hid (And.intro hbe h0)
  have Hsm := Lib.hid hsm
  have Hmy := Lib.hid hmy
  have Hla := Lib.hid hla
  clear F hW0 b0 hbe hz0 h0 a0 hsm hmy hla h hs hf htab hev hn hq
  by_cases hd : K.dead = 0
  · have hd0 : errD K.dead = .nilIface := by rw [hd]; rfl
    rw [hd0] at c13
    obtain ⟨q, hq⟩ : ∃ q, decide (s.st = K.now) = q := ⟨_, rfl⟩
    rw [hq] at Hsm
    obtain ⟨m, hm⟩ : ∃ m, s.st.may = m := ⟨_, rfl⟩
    rw [hm] at Hmy
    have hP : K.save D s.st = if q = true then (K, D, 0) else if m = true then K.lay D s.st else (K, D, 1) := by
      unfold Kp.save
      rw [if_neg (fun h => h hd), ← hq, ← hm]
      by_cases h1 : s.st = K.now
      · rw [if_pos h1, decide_eq_true h1]; rfl
      · rw [if_neg h1, decide_eq_false h1]; rfl
    rw [hP]
    have HP := Lib.hid hP
    have Hm := Lib.hid hm
    clear hd hq hP hm hd0
    unfold Sv.val stA
    go_enter Tryz.func7, Tryz.ntmps7
    go_upto_region 1 with (fail)
    have HW' := HW.out
    unfold Sv.cells at HW'
    rw [← HW']
    clear HW'
    go_upto_region 5 with (fail)
    refine wp_region_S 6 (fun W => Below W0.heap.size W0 W) (.take 0 (.take 1 (.take 2 (.take 3 (.take 4 (.one 5 (.one 6 (.nil)))))))) (by kernel_rfl) (Below.refl _ _).drew (fun _ _ _ _ h => h) (fun hS => ?_)
    repeat (first
      | (refine wpS_take (v := ?_) rfl rfl (by rfl) ?_ ?_; rotate_left; (intro W hW; have hf := FF.out W hW; go_split_ands; go_simp; try with_reducible rfl); try simp only [Act.put, List.setIfInBounds_toArray, List.set_cons_zero, List.set_cons_succ])
      | (refine wpS_skip rfl rfl (by rfl) ?_; try simp only [Act.put, List.setIfInBounds_toArray, List.set_cons_zero, List.set_cons_succ]))
    refine wpS_one rfl (by rfl) (fun K hK => ?_)
    go_simp
    go_at_call 27
    refine (Hsm.out).mono ?_
    rintro e w1 ⟨rfl, hb1⟩
    have hS1 : Below W0.heap.size W0 w1 := (Below.refl _ _).drew.trans hb1
    clear hb1
    refine hK (fun W => Below W0.heap.size W0 W) _ _ (fun _ h => h) hS1 ?_
    clear hK K
    try simp only [Act.put, List.setIfInBounds_toArray, List.set_cons_zero, List.set_cons_succ]
    refine wpS_last rfl (by rfl) (fun K hK => ?_)
    go_simp
    refine hK _ _ ?_
    clear hK K
    try simp only [Act.put, List.setIfInBounds_toArray, List.set_cons_zero, List.set_cons_succ]
    refine wpS_nil ?_
    have K1 := Lib.hid hS1
    clear hS hS1 c13
    obtain ⟨⟨d0, d1, d2, d3, d4, d5, d6⟩, -⟩ := FF.out w1 K1.out
    cases q
    · cases m
      · go_wp2_with fail
        refine (Hmy.out w1 K1.out).mono ?_
        rintro e w2 ⟨rfl, hb2⟩
        have K2 := Lib.hid (K1.out.trans (hb2.mono K1.out.size))
        clear hb2 d0 d1 d2 d3 d4 d5 d6
        go_wp2_with fail
        go_ret
        exact ⟨rfl, z, KAft.up B.out.1 (KAft.of B.out.2 K2.out)⟩
      · go_wp2_with fail
        refine (Hmy.out w1 K1.out).mono ?_
        rintro e w2 ⟨rfl, hb2⟩
        have K2 := Lib.hid (K1.out.trans (hb2.mono K1.out.size))
        clear hb2 d0 d1 d2 d3 d4 d5 d6
        obtain ⟨⟨d0, d1, d2, d3, d4, d5, d6⟩, -⟩ := FF.out w2 K2.out
        go_wp2_with fail
        refine (Hla.out w2 K2.out (by have := Hm.out; assumption)).mono ?_
        intro e w3 hp
        have hp2 := LayP.up B.out.1 (LayP.up K2.out hp)
        obtain ⟨rfl, hp3⟩ := hp2
        have HP3 := Lib.hid hp3
        clear hp hp3
        go_wp2_with fail
        go_ret
        exact ⟨rfl, HP3.out⟩
    · go_wp2_with fail
      go_ret
      exact ⟨rfl, z, KAft.up B.out.1 (KAft.of B.out.2 K1.out)⟩
  · have hd0 : errD K.dead = .iface 69 (.int .i64 K.dead) := by unfold errD; rw [if_neg hd]
    rw [hd0] at c13
    have hP : K.save D s.st = (K, D, K.dead) := by unfold Kp.save; rw [if_pos hd]
    rw [hP]
    have Hd0 := Lib.hid hd0
    clear hd hP hd0
    unfold Sv.val stA
    go_enter Tryz.func7, Tryz.ntmps7
    go_upto_region 1 with (fail)
    have HW' := HW.out
    unfold Sv.cells at HW'
    rw [← HW']
    clear HW'
    go_wp2_with fail
    go_ret
    exact ⟨by rw [Hd0.out]; rfl, z, KAft.up B.out.1 (KAft.of B.out.2 (Below.refl _ _))⟩
end
theorem save_nil (s : Sv) (w : World) : Calls Tryz.prog 7 #[.pointer none, s.val] w (fun e w' => e = .returned (.iface 69 (.int .i64 1)) ∧ Below w.heap.size w w') := by
  unfold Sv.val stA
  go_enter Tryz.func7, Tryz.ntmps7
  go_wp2_with fail
  go_ret
  exact ⟨rfl, (Below.refl _ _).alloc (Nat.le_refl _) _⟩
end Go.Proofs.YtlecglmiigdjlaaGreatDoor
