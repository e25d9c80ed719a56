/- The law's giveLog: all that it gives is new. (Printed by mklaw15.py out of c09's XGive.)
   Walk: the law's giveStored. (Printed by mkgive15.py.)
   Walk of the law's ints: are two lists of numbers the same?
   Walks: the law's sameLog, sameStored at the same, long.
   Walks: the law's entries at any two lists, told exactly. (Printed by mkentsa.py.) -/
import Derived.Test.YtmhaahcbmdhinaaGreatDoorK10
import Derived.Test.YtmhaahcbmdhinaaGreatDoorK19
import Derived.Test.YtmhaahcbmdhinaaGreatDoorK27
import Derived.Test.YtmhaahcbmdhinaaGreatDoorKO0
import Derived.Test.YtmhaahcbmdhinaaGreatDoorK17
import Derived.Test.YtmhaahcbmdhinaaGreatDoorK2
import Derived.RegionTactic
import Derived.Test.YtmhaahcbmdhinaaGreatDoorK9
import Derived.Test.YtmhaahcbmdhinaaGreatDoorK11
namespace Go.Proofs.YtmhaahcbmdhinaaGreatDoor
open Go.RowKit
set_option maxRecDepth 100000
set_option linter.unusedVariables false
set_option linter.unusedSimpArgs false
attribute [local go_sem ↓] Go.wp_at_zero Go.wp_at_succ
def LogPostB (W : World) (b t : Int) (n : Nat) (L : List Er) (e : Ending) (w' : World) : Prop :=
  ∃ A c L', e = .returned (.agg #[.int .i64 b, .int .i64 t, .slice A n c]) ∧ Rd w' (W.heap.size ≤ ·) 4 A n (flat ecell L') ∧ DatB w' W.heap.size L' ∧ Same L L' ∧ n ≤ c ∧ c ≤ maxLen ∧ Below W.heap.size W w'
set_option maxHeartbeats 3200000 in
theorem giveLogB_any (b t : Int) (A : Option Addr) (n c : Nat) (L : List Er) (w : World) (hr : Rd w T 4 A n (flat ecell L)) (hd : Dat w L) (hs : ∀ x ∈ L, x.n ≤ 1000000) (hn : n ≤ 1000000) :
    Calls Tryz.prog 39 #[.agg #[.int .i64 b, .int .i64 t, .slice A n c]] w (LogPostB w b t n L) := by
  have hr' := hr.lt (by omega)
  obtain ⟨W0, hW0⟩ : ∃ W0, W0 = (w.alloc (.cells #[.int .i64 b, .int .i64 t, .slice A n c] 24)).alloc (.cells #[.int .i64 0, .int .i64 0, .slice none 0 0] 38) := ⟨_, rfl⟩
  have b0 : Bx W0 w.heap.size #[.int .i64 b, .int .i64 t, .slice A n c] := by subst hW0; exact (Bx.new _ _ _ rfl).alloc _
  have F0 : Fr W0 (w.heap.size + 1) 3 W0 := by subst hW0; exact Fr.new (by simp) rfl
  have r0 : Rd W0 (· < w.heap.size) 4 A n (flat ecell L) := by subst hW0; exact ((hr'.mono fun b hb => hb.2).alloc _).alloc _
  have d0 : ∀ x ∈ L, Rd W0 (· < w.heap.size) 1 x.A x.n (bs x.d) ∧ x.n ≤ x.m ∧ x.m ≤ maxLen := by
    subst hW0
    exact fun x hx => ⟨(((((hd x hx).1.lt (by omega)).mono fun b hb => hb.2).alloc _).alloc _), (hd x hx).2⟩
  have hbe : Below w.heap.size w W0 := by subst hW0; exact ((Below.refl _ _).alloc (Nat.le_refl _) _).alloc (by simp) _
  have hz : W0.heap.size = w.heap.size + 2 := by subst hW0; simp
  have u0 : W0.cell? ⟨w.heap.size, 0, none⟩ = some (.int .i64 b) := b0.c 0
  have u1 : W0.cell? ⟨w.heap.size, 1, none⟩ = some (.int .i64 t) := b0.c 1
  have u2 : W0.cell? ⟨w.heap.size, 2, none⟩ = some (.slice A n c) := b0.c 2
  have sof : ∀ W, Fr W0 (w.heap.size + 1) 3 W → (Fr W0 (w.heap.size + 1) 3 W ∧ W.cell? ⟨w.heap.size, 0, none⟩ = some (.int .i64 b) ∧ W.cell? ⟨w.heap.size, 1, none⟩ = some (.int .i64 t) ∧ W.cell? ⟨w.heap.size, 2, none⟩ = some (.slice A n c) ∧ W.cell? ⟨w.heap.size + 1, 0, none⟩ = some (peek W (w.heap.size + 1) 0) ∧ W.cell? ⟨w.heap.size + 1, 1, none⟩ = some (peek W (w.heap.size + 1) 1) ∧ W.cell? ⟨w.heap.size + 1, 2, none⟩ = some (peek W (w.heap.size + 1) 2) ∧ W.frozen? ⟨w.heap.size + 1, 0, none⟩ = false ∧ W.frozen? ⟨w.heap.size + 1, 1, none⟩ = false ∧ W.frozen? ⟨w.heap.size + 1, 2, none⟩ = false) :=
    fun W F2 => ⟨F2, F2.cell (by omega) u0, F2.cell (by omega) u1, F2.cell (by omega) u2, F2.pk (by omega), F2.pk (by omega), F2.pk (by omega), F2.fz _, F2.fz _, F2.fz _⟩
  have hgv := fun W (h : Fr W0 (w.heap.size + 1) 3 W) => gives_any A n c L W (h.rd r0 (by omega)) (fun x hx => ⟨(h.rd (d0 x hx).1 (by omega)).any, (d0 x hx).2⟩) hs hn
  have Hgv := Lib.hid hgv
  have HW := Lib.hid hW0
  have s0 := sof _ F0
  have Hz := Lib.hid hz
  clear hW0 b0 u0 u1 u2 hr hr' hz r0 d0 hgv hd hs
  go_enter Tryz.func39, Tryz.ntmps39
  go_upto_region 1 with (fail)
  rw [← HW.out]
  go_split_ands
  go_region_held3 (fun W => Fr W0 (w.heap.size + 1) 3 W ∧ W.cell? ⟨w.heap.size, 0, none⟩ = some (.int .i64 b) ∧ W.cell? ⟨w.heap.size, 1, none⟩ = some (.int .i64 t) ∧ W.cell? ⟨w.heap.size, 2, none⟩ = some (.slice A n c) ∧ W.cell? ⟨w.heap.size + 1, 0, none⟩ = some (peek W (w.heap.size + 1) 0) ∧ W.cell? ⟨w.heap.size + 1, 1, none⟩ = some (peek W (w.heap.size + 1) 1) ∧ W.cell? ⟨w.heap.size + 1, 2, none⟩ = some (peek W (w.heap.size + 1) 2) ∧ W.frozen? ⟨w.heap.size + 1, 0, none⟩ = false ∧ W.frozen? ⟨w.heap.size + 1, 1, none⟩ = false ∧ W.frozen? ⟨w.heap.size + 1, 2, none⟩ = false) ((refine sof _ ?_; first | exact F0.drew | (go_split_ands; exact Fr.below (by assumption) (by assumption)) | (go_split_ands; exact Fr.set (Fr.set (Fr.set (by assumption) _ _) _ _) _ _))) (first
    | (go_at_call 72; refine (Hgv.out _ (by go_split_ands; assumption)).mono ?_; rintro e w4 ⟨A4, c4, L4, rfl, ro4, sm4, hb4⟩; have F4 : Fr W0 (w.heap.size + 1) 3 w4 := Fr.below (by go_split_ands; assumption) hb4; have z4 : W0.heap.size ≤ W0.drew.heap.size := Nat.le_refl _))
  all_goals
    have q0 : w4.cell? ⟨w.heap.size + 1, 0, none⟩ = some (peek w4 (w.heap.size + 1) 0) := F4.pk (by omega)
    have q1 : w4.cell? ⟨w.heap.size + 1, 1, none⟩ = some (peek w4 (w.heap.size + 1) 1) := F4.pk (by omega)
    have q2 : w4.cell? ⟨w.heap.size + 1, 2, none⟩ = some (peek w4 (w.heap.size + 1) 2) := F4.pk (by omega)
    have FF := Fr.set (Fr.set (Fr.set F4 0 (.int .i64 b)) 1 (.int .i64 t)) 2 (.slice A4 n c4)
    have hz := Hz.out
    go_wp2_with fail
    refine bodyPost_ret (by simp [results, Tryz.results39, go_sem, q0, q1, q2]; rfl) rfl ?_
    have hm := own_cap ro4.ow
    have hne : ¬ W0.drew.heap.size ≤ w.heap.size + 1 := by show ¬ W0.heap.size ≤ _; omega
    refine ⟨A4, c4, L4, rfl, ?_, fun y hy => ⟨?_, (ro4.dt y hy).2⟩, sm4, hm.1, hm.2, hbe.trans (FF.to_below (B := w.heap.size) (by omega))⟩
    · exact ((((Rd.of_own ro4.ow).setCell (p := ⟨w.heap.size + 1, 0, none⟩) hne _).setCell (p := ⟨w.heap.size + 1, 1, none⟩) hne _).setCell (p := ⟨w.heap.size + 1, 2, none⟩) hne _).mono fun q hq => (by have h9 : W0.heap.size ≤ q := hq; omega)
    · exact ((((ro4.dat_from y hy).1.setCell (p := ⟨w.heap.size + 1, 0, none⟩) hne _).setCell (p := ⟨w.heap.size + 1, 1, none⟩) hne _).setCell (p := ⟨w.heap.size + 1, 2, none⟩) hne _).mono fun q hq => (by have h9 : W0.heap.size ≤ q := hq; omega)
end Go.Proofs.YtmhaahcbmdhinaaGreatDoor
namespace Go.Proofs.YtmhaahcbmdhinaaGreatDoor
open Go.RowKit
set_option maxRecDepth 100000
set_option linter.unusedVariables false
set_option linter.unusedSimpArgs false
def z7 : Array Value := #[.int .i64 0, .int .i64 0, .int .i64 0, .int .i64 0, .slice none 0 0, .slice none 0 0, .slice none 0 0]
def GiveSP (W : World) (s : St) (e : Ending) (w' : World) : Prop := ∃ s' : Sv, e = .returned s'.val ∧ s'.At w' (W.heap.size ≤ ·) ∧ s'.st = s ∧ s'.Fit ∧ Below W.heap.size W w'
set_option maxHeartbeats 3200000 in
theorem giveS_any (s : Sv) (w : World) {ok : Nat → Prop} (h : s.At w ok) (hf : s.Fit) :
    Calls Tryz.prog 13 #[s.val] w (GiveSP w s.st) := by
  obtain ⟨W0, hW0⟩ : ∃ W0, W0 = (w.alloc (.cells s.cells 28)).alloc (.cells z7 41) := ⟨_, rfl⟩
  have b0 : Bx W0 w.heap.size s.cells := by subst hW0; exact (Bx.new _ _ _ rfl).alloc _
  have b9 : Bx W0 (w.heap.size + 1) z7 := by subst hW0; exact Bx.new _ _ _ (by simp)
  have hbe : Below w.heap.size w W0 := by subst hW0; exact ((Below.refl _ _).alloc (Nat.le_refl _) _).alloc (by simp) _
  have hz0 : W0.heap.size = w.heap.size + 2 := by subst hW0; simp
  have a0 := h.below hbe
  have hgl := giveLogB_any s.b s.t s.A s.n s.c s.L W0.drew a0.l.any.drew (fun y hy => ⟨(a0.d y hy).1.any.drew, (a0.d y hy).2⟩) (fun y hy => (hf.w y hy).2) hf.z.1
  have F : ∀ W, Below W0.heap.size W0 W → W.cell? ⟨w.heap.size, 0, none⟩ = some (.int .i64 s.tm) ∧ W.cell? ⟨w.heap.size, 1, none⟩ = some (.int .i64 s.vt) ∧ W.cell? ⟨w.heap.size, 2, none⟩ = some (.int .i64 s.b) ∧ W.cell? ⟨w.heap.size, 3, none⟩ = some (.int .i64 s.t) ∧ W.cell? ⟨w.heap.size, 4, none⟩ = some (.slice s.A s.n s.c) ∧ W.cell? ⟨w.heap.size, 5, none⟩ = some (.slice s.C s.nc s.cc) ∧ W.cell? ⟨w.heap.size, 6, none⟩ = some (.slice s.S s.ns s.cs) := fun W hb => Sv.c7 (b0.below hb)
  have hz := hf.z
  have FF := Lib.hid F
  have HW := Lib.hid hW0
  have B := Lib.hid (And.intro b9 (And.intro hbe (And.intro hz0 a0)))
  have Hgl := Lib.hid hgl
  have Hh := Lib.hid h
  clear F hW0 b0 b9 hbe hz0 a0 hgl h
  unfold Sv.val stA
  go_enter Tryz.func13, Tryz.ntmps13
  go_upto_region 1 with (fail)
  have HW' := HW.out
  unfold Sv.cells z7 at HW'
  rw [← HW']
  clear HW'
  go_upto_region 3 with (fail)
  refine wp_region_S 16 (fun W => Below W0.heap.size W0 W) (.take 0 (.take 1 (.take 2 (.take 3 (.take 4 (.take 5 (.take 7 (.take 8 (.take 9 (.take 11 (.take 12 (.take 13 (.one 6 (.one 10 (.one 14 (.take 15 (.one 16 (.nil)))))))))))))))))) (by kernel_rfl) (Below.refl _ _).drew (fun _ _ _ _ h => h) (fun hS => ?_)
  repeat (first
    | (refine wpS_take (v := ?_) rfl rfl (by rfl) ?_ ?_; rotate_left; (intro W hW; have hf := FF.out W hW; go_split_ands; go_simp; try with_reducible rfl); try simp only [Act.put, List.setIfInBounds_toArray, List.set_cons_zero, List.set_cons_succ])
    | (refine wpS_skip rfl rfl (by rfl) ?_; try simp only [Act.put, List.setIfInBounds_toArray, List.set_cons_zero, List.set_cons_succ]))
  refine wpS_one rfl (by rfl) (fun K hK => ?_)
  go_simp
  go_at_call 39
  refine (Hgl.out).mono ?_
  rintro e w1 ⟨A1, c1, L1, rfl, r1, d1, e1, k1, k2, hb1⟩
  have hb1' : Below W0.heap.size W0 w1 := (Below.refl _ _).drew.trans hb1
  have R1 := Lib.hid (And.intro r1 (And.intro d1 (And.intro e1 (And.intro k1 k2))))
  have hS1 := hb1'
  clear r1 d1 e1 hb1 hb1'
  refine hK (fun W => Below W0.heap.size W0 W) _ _ (fun _ h => h) hS1 ?_
  clear hK K
  try simp only [Act.put, List.setIfInBounds_toArray, List.set_cons_zero, List.set_cons_succ]
  refine wpS_one rfl (by rfl) (fun K hK => ?_)
  refine wp_append_any w1 Tryz.underlying25 int_elem rfl (by omega) rfl rfl (World.ownsRow_nil w1 w1.heap.size _ 1) rfl (B.out.2.2.2.cf.any.below hS1) (ii_one _) (by omega) (Nat.le_refl _) (Nat.zero_add _) (List.nil_append _) ?_
  intro A2 c2 w2 o2 g2 hat2
  clear hat2
  have hb2 : Below w1.heap.size w1 w2 := (Below.refl _ _).grown g2 (Nat.le_refl _) (fun q hq => by cases hq)
  have hS2 := hS1.trans (hb2.mono hS1.size)
  have O2 := Lib.hid (And.intro o2 hb2)
  refine hK (fun W => Below W0.heap.size W0 W) _ _ (fun _ h => h) hS2 ?_
  clear hK K o2 g2 hb2
  try simp only [Act.put, List.setIfInBounds_toArray, List.set_cons_zero, List.set_cons_succ]
  refine wpS_one rfl (by rfl) (fun K hK => ?_)
  refine wp_append_any w2 Tryz.underlying26 u8_elem rfl (by omega) rfl rfl (World.ownsRow_nil w2 w2.heap.size _ 1) rfl (B.out.2.2.2.sn.any.below hS2) (bs_one _) (by omega) (Nat.le_refl _) (Nat.zero_add _) (List.nil_append _) ?_
  intro A3 c3 w3 o3 g3 hat3
  clear hat3
  have hb3 : Below w2.heap.size w2 w3 := (Below.refl _ _).grown g3 (Nat.le_refl _) (fun q hq => by cases hq)
  have hS3 := hS2.trans (hb3.mono hS2.size)
  have O3 := Lib.hid (And.intro o3 hb3)
  refine hK (fun W => Below W0.heap.size W0 W) _ _ (fun _ h => h) hS3 ?_
  clear hK K o3 g3 hb3
  try simp only [Act.put, List.setIfInBounds_toArray, List.set_cons_zero, List.set_cons_succ]
  repeat (first
    | (refine wpS_take (v := ?_) rfl rfl (by rfl) ?_ ?_; rotate_left; (intro W hW; have hf := FF.out W hW; go_split_ands; go_simp; try with_reducible rfl); try simp only [Act.put, List.setIfInBounds_toArray, List.set_cons_zero, List.set_cons_succ])
    | (refine wpS_skip rfl rfl (by rfl) ?_; try simp only [Act.put, List.setIfInBounds_toArray, List.set_cons_zero, List.set_cons_succ]))
  have y9 := B.out.1.below hS3
  obtain ⟨q0, q1, q2, q3, q4, q5, q6⟩ := y9.c7
  have p0 := y9.f 0
  have p1 := y9.f 1
  have p2 := y9.f 2
  have p3 := y9.f 3
  have p4 := y9.f 4
  have p5 := y9.f 5
  have p6 := y9.f 6
  have Y9 := Lib.hid (And.intro y9 (And.intro hS1 (And.intro hS2 hS3)))
  clear y9
  refine wpS_last rfl (by rfl) (fun K hK => ?_)
  go_simp
  refine hK _ _ ?_
  clear hK K hS hS1 hS2 hS3
  try simp only [Act.put, List.setIfInBounds_toArray, List.set_cons_zero, List.set_cons_succ]
  refine wpS_nil ?_
  clear q0 q1 q2 q3 q4 q5 q6 p0 p1 p2 p3 p4 p5 p6
  obtain ⟨W4, hW4⟩ : ∃ W4, W4 = (((((((w3.setCell ⟨w.heap.size + 1, 0, none⟩ (.int .i64 s.tm)).setCell ⟨w.heap.size + 1, 1, none⟩ (.int .i64 s.vt)).setCell ⟨w.heap.size + 1, 2, none⟩ (.int .i64 s.b)).setCell ⟨w.heap.size + 1, 3, none⟩ (.int .i64 s.t)).setCell ⟨w.heap.size + 1, 4, none⟩ (.slice A1 s.n c1)).setCell ⟨w.heap.size + 1, 5, none⟩ (.slice A2 s.nc c2)).setCell ⟨w.heap.size + 1, 6, none⟩ (.slice A3 s.ns c3)) := ⟨_, rfl⟩
  have x4 : Bx W4 (w.heap.size + 1) (Sv.cells ⟨s.tm, s.vt, s.b, s.t, A1, s.n, c1, L1, A2, s.nc, c2, s.cf, A3, s.ns, c3, s.sn⟩) := by
    rw [hW4]
    exact Bx.set7 Y9.out.1 _ _ _ _ _ _ _
  have hk : ∀ b, b ≠ w.heap.size + 1 → W4.heap[b]? = w3.heap[b]? := fun b hb => by
    rw [hW4]
    exact keep7 hb _ _ _ _ _ _ _
  have b4 : Below w.heap.size w W4 := by
    have h1 := B.out.2.1.trans (Y9.out.2.2.2.mono B.out.2.1.size)
    have h2 : Below w.heap.size w3 W4 := by
      rw [hW4]
      exact (below7 (Below.refl (w.heap.size + 1) w3) _ _ _ _ _ _ _).mono (by omega)
    exact h1.trans h2
  have z1 := Y9.out.2.1.size
  have z2 := Y9.out.2.2.1.size
  have hz0 := B.out.2.2.1
  have zd : W0.drew.heap.size = W0.heap.size := rfl
  have a3 : Sv.At ⟨s.tm, s.vt, s.b, s.t, A1, s.n, c1, L1, A2, s.nc, c2, s.cf, A3, s.ns, c3, s.sn⟩ w3 (W0.heap.size ≤ ·) :=
    ⟨(R1.out.1.below O2.out.2).below O3.out.2, fun y hy => ⟨((R1.out.2.1 y hy).1.below O2.out.2).below O3.out.2, (R1.out.2.1 y hy).2⟩, ((Rd.of_own O2.out.1).mono fun b hb => (by omega : W0.heap.size ≤ b)).below O3.out.2, (Rd.of_own O3.out.1).mono fun b hb => (by omega : W0.heap.size ≤ b), R1.out.2.2.2, own_cp O2.out.1, own_cp O3.out.1⟩
  have a4 := (a3.keep (W' := W4) fun b hb _ => hk b (by have h9 : W0.heap.size ≤ b := hb; omega)).mono (ok' := (w.heap.size ≤ ·)) fun b hb => (by have h9 : W0.heap.size ≤ b := hb; omega)
  have st4 : Sv.st ⟨s.tm, s.vt, s.b, s.t, A1, s.n, c1, L1, A2, s.nc, c2, s.cf, A3, s.ns, c3, s.sn⟩ = s.st := by
    have h9 : L1.map en = s.L.map en := R1.out.2.2.1
    unfold Sv.st
    dsimp only
    rw [h9]
  have f4 := Sv.fit_of a4 Hh.out hf st4
  rw [← hW4]
  have K4 := Lib.hid (And.intro a4 (And.intro st4 (And.intro f4 b4)))
  clear hW4 hk b4 a3 a4 st4 f4
  go_wp2_with fail
  obtain ⟨ty4, hg4⟩ := x4.hp
  refine bodyPost_ret (results_cell_row rfl _ _ (w.heap.size + 1) _ _ (0, 0) _ rfl hg4 Tryz.underlying41 rfl (by kernel_rfl)) rfl ?_
  exact ⟨_, rfl, K4.out.1, K4.out.2.1, K4.out.2.2.1, K4.out.2.2.2⟩
end Go.Proofs.YtmhaahcbmdhinaaGreatDoor
namespace Go.Proofs.YtmhaahcbmdhinaaGreatDoor
open Go.RowKit
set_option linter.unusedVariables false
set_option linter.unusedSimpArgs false
set_option maxRecDepth 100000
theorem ints_short (A : Option Addr) (n c : Nat) (B : Option Addr) (m d : Nat) (w : World) (h : ((n : Int) != (m : Int)) = true) :
    Calls Tryz.prog 47 #[.slice A n c, .slice B m d] w (BoolPost w false) := by
  go_enter Tryz.func47, Tryz.ntmps47
  go_wp2_with fail
  go_ret
  exact ⟨rfl, Below.refl _ _⟩
set_option maxHeartbeats 800000 in
theorem ints_same (A : Option Addr) (n c : Nat) (B : Option Addr) (d : Nat) (xs ys : List Int) (w : World) {ok ok' : Nat → Prop} (hx : Rd w ok 1 A n (ii xs)) (hy : Rd w ok' 1 B n (ii ys)) (hn : n ≤ 9223372036854775807) :
    Calls Tryz.prog 47 #[.slice A n c, .slice B n d] w (BoolPost w (decide (xs = ys))) := by
  have hlx : xs.length = n := by have := hx.1; simpa [ii] using this
  have hly : ys.length = n := by have := hy.1; simpa [ii] using this
  have Hlx := Lib.hid hlx
  have Hly := Lib.hid hly
  have hne : ((n : Int) != (n : Int)) = false := by simp
  clear hlx hly
  go_enter Tryz.func47, Tryz.ntmps47
  go_wp2_with fail
  go_loopg [5] n (fun k s5 wr => ∃ j : Nat, k = n - j ∧ j ≤ n ∧ s5 = .int .i64 j ∧ xs.take j = ys.take j ∧ Below w.heap.size w wr)
  case atStart => exact ⟨0, by omega, by omega, rfl, rfl, Below.refl _ _⟩
  case round =>
    obtain ⟨j, hk, hj, rfl, heq, hb⟩ := hrel
    have Hk := Lib.hid hk
    have Heq := Lib.hid heq
    clear hk heq
    by_cases hlt : j < n
    · obtain ⟨b1, o1, z1, rfl, _, _, hz1, hc1⟩ := ii_cell (hx.below hb) hlt
      obtain ⟨b2, o2, z2, rfl, _, _, hz2, hc2⟩ := ii_cell (hy.below hb) hlt
      have Hz1 := Lib.hid hz1
      have Hz2 := Lib.hid hz2
      clear hz1 hz2
      have hjn : (j : Int) < n := by omega
      have h0j : (0 : Int) ≤ j := by omega
      by_cases hzz : z1 = z2
      · subst hzz
        have hs : xs.take (j + 1) = ys.take (j + 1) := by rw [List.take_add_one, List.take_add_one, Hz1.out, Hz2.out, Heq.out]
        have Hs := Lib.hid hs
        have hzf : ((z1 : Int) != z1) = false := by simp
        clear hs
        go_wp2_with fail
        go_region
        all_goals
          go_wp2_with fail
          go_roundg (n - (j + 1))
          case measure => have := Hk.out; omega
          case rel => exact ⟨j + 1, rfl, by omega, by go_num, Hs.out, hb.drew⟩
      · have hzf : ((z1 : Int) != z2) = true := by simpa using hzz
        have hne2 : decide (xs = ys) = false := decide_eq_false (by
          intro h
          subst h
          rw [Hz1.out] at Hz2
          exact hzz (Option.some.inj Hz2.out))
        have Hne2 := Lib.hid hne2
        clear hne2 hzz
        go_wp2_with fail
        go_region
        all_goals
          go_wp2_with fail
          go_ret
          exact ⟨ret_bool Hne2.out.symm, hb.drew⟩
    · obtain rfl : j = n := by omega
      have hyes : decide (xs = ys) = true := decide_eq_true (by
        have := Heq.out
        rwa [List.take_of_length_le (Nat.le_of_eq Hlx.out), List.take_of_length_le (Nat.le_of_eq Hly.out)] at this)
      have Hyes := Lib.hid hyes
      clear hyes
      go_wp2_with fail
      go_ret
      exact ⟨ret_bool Hyes.out.symm, hb⟩
theorem ints_any (A : Option Addr) (n c : Nat) (B : Option Addr) (m d : Nat) (xs ys : List Int) (w : World) {ok ok' : Nat → Prop} (hx : Rd w ok 1 A n (ii xs)) (hy : Rd w ok' 1 B m (ii ys)) (hn : n ≤ 9223372036854775807) :
    Calls Tryz.prog 47 #[.slice A n c, .slice B m d] w (BoolPost w (decide (xs = ys))) := by
  have hlx : xs.length = n := by have := hx.1; simpa [ii] using this
  have hly : ys.length = m := by have := hy.1; simpa [ii] using this
  by_cases h : n = m
  · subst h
    exact ints_same A n c B d xs ys w hx hy hn
  · rw [decide_eq_false (fun e => h (by rw [← hlx, ← hly, e]))]
    exact ints_short A n c B m d w (by simp; omega)
end Go.Proofs.YtmhaahcbmdhinaaGreatDoor
namespace Go.Proofs.YtmhaahcbmdhinaaGreatDoor
open Go.RowKit
set_option maxRecDepth 100000
set_option linter.unusedVariables false
set_option linter.unusedSimpArgs false
theorem wt_of {s : Sv} {W : World} {ok : Nat → Prop} (hf : s.Fit) (hm : s.st.may = true) : ∀ x ∈ s.L, Wt x := fun x hx => by
  have h1 := (St.may_iff hm).2.2.2.2.1 (en x) (List.mem_map_of_mem hx)
  have h2 := hf.w x hx
  unfold EnOk at h1
  unfold Wt
  simp only [en] at h1
  exact ⟨by omega, by omega, by omega, by omega, by omega, by omega, h2.2⟩
set_option maxHeartbeats 1600000 in
theorem sameLog_yes (x y : Sv) (w : World) {ok ok' : Nat → Prop} (hx : x.At w ok) (hy : y.At w ok') (fx : x.Fit) (fy : y.Fit) (hst : x.st = y.st) (hm : x.st.may = true) (htab : TabW w) :
    Calls Tryz.prog 105 #[.agg #[.int .i64 x.b, .int .i64 x.t, .slice x.A x.n x.c], .agg #[.int .i64 y.b, .int .i64 y.t, .slice y.A y.n y.c]] w (BoolPost w true) := by
  obtain ⟨e1, e2, e3, e4, e5, e6, e7⟩ := st_iff.1 hst
  have k3 : x.b = y.b := e3
  have k4 : x.t = y.t := e4
  have k5 : y.L.map en = x.L.map en := e5.symm
  have l1 := hx.l.flen ecell_len (by omega)
  have l2 := hy.l.flen ecell_len (by omega)
  have kn : y.n = x.n := by have := congrArg List.length k5; rw [List.length_map, List.length_map] at this; omega
  obtain ⟨W0, hW0⟩ : ∃ W0, W0 = (w.alloc (.cells #[.int .i64 x.b, .int .i64 x.t, .slice x.A x.n x.c] 38)).alloc (.cells #[.int .i64 y.b, .int .i64 y.t, .slice y.A y.n y.c] 24) := ⟨_, rfl⟩
  have b0 : Bx W0 w.heap.size #[.int .i64 x.b, .int .i64 x.t, .slice x.A x.n x.c] := by subst hW0; exact (Bx.new _ _ _ rfl).alloc _
  have b1 : Bx W0 (w.heap.size + 1) #[.int .i64 y.b, .int .i64 y.t, .slice y.A y.n y.c] := by subst hW0; exact Bx.new _ _ _ (by simp)
  have hbe : Below w.heap.size w W0 := by subst hW0; exact ((Below.refl _ _).alloc (Nat.le_refl _) _).alloc (by simp) _
  have a0 := hx.below hbe
  have a1 := hy.below hbe
  have l' := a1.l
  rw [kn] at l'
  have hen := entries_yes x.A x.n x.c x.L y.A y.c y.L W0 a0.l l' (fun z hz => (a0.d z hz).1.any) (fun z hz => (a1.d z hz).1.any) k5 (wt_of (W := w) (ok := ok) fx hm) (wt_of (W := w) (ok := ok) fy (by rw [← hst]; exact hm)) fx.z.1 (htab.below hbe (Nat.le_refl _))
  rw [← kn] at hen
  have hen' : Calls Tryz.prog 165 #[.slice x.A x.n x.c, .slice y.A y.n y.c] W0 (BoolPost W0 true) := by rw [kn] at hen ⊢; exact hen
  have q1 : (x.b == y.b) = true := by simpa using k3
  have q2 : (x.t == y.t) = true := by simpa using k4
  obtain ⟨c0, c1, c2, -⟩ := b0.c3
  obtain ⟨d0, d1, d2, -⟩ := b1.c3
  have HW := Lib.hid hW0
  have B := Lib.hid hbe
  have Hen := Lib.hid hen'
  clear hW0 b0 b1 hbe a0 a1 l' hen hen' hx hy fx fy hst hm htab e1 e2 e3 e4 e5 e6 e7 k3 k4 k5 l1 l2 kn
  go_enter Tryz.func105, Tryz.ntmps105
  go_upto_region 1 with (fail)
  rw [← HW.out]
  go_wp2_with fail
  refine Hen.out.mono ?_
  rintro e w1 ⟨rfl, hb1⟩
  have K := Lib.hid (B.out.trans (hb1.mono B.out.size))
  clear hb1
  go_wp2_with fail
  go_ret
  exact ⟨rfl, K.out⟩
set_option maxHeartbeats 3200000 in
theorem sameS_yes (x y : Sv) (w : World) {ok ok' : Nat → Prop} (hx : x.At w ok) (hy : y.At w ok') (fx : x.Fit) (fy : y.Fit) (hst : x.st = y.st) (hm : x.st.may = true) (htab : TabW w) :
    Calls Tryz.prog 46 #[x.val, y.val] w (BoolPost w true) := by
  obtain ⟨e1, e2, e3, e4, e5, e6, e7⟩ := st_iff.1 hst
  have k1 : x.tm = y.tm := e1
  have k2 : x.vt = y.vt := e2
  have k6 : x.cf = y.cf := e6
  have k7 : x.sn = y.sn := e7
  obtain ⟨W0, hW0⟩ : ∃ W0, W0 = (w.alloc (.cells x.cells 41)).alloc (.cells y.cells 28) := ⟨_, rfl⟩
  have b0 : Bx W0 w.heap.size x.cells := by subst hW0; exact (Bx.new _ _ _ rfl).alloc _
  have b1 : Bx W0 (w.heap.size + 1) y.cells := by subst hW0; exact Bx.new _ _ _ (by simp)
  have hbe : Below w.heap.size w W0 := by subst hW0; exact ((Below.refl _ _).alloc (Nat.le_refl _) _).alloc (by simp) _
  have a0 := hx.below hbe
  have a1 := hy.below hbe
  have hlg := sameLog_yes x y W0 a0 a1 fx fy hst hm (htab.below hbe (Nat.le_refl _))
  have hin := fun W (hb : Below W0.heap.size W0 W) => ints_any x.C x.nc x.cc y.C y.nc y.cc x.cf y.cf W (a0.cf.below hb) (a1.cf.below hb) (by have := fx.z.2.1; omega)
  rw [decide_eq_true k6] at hin
  have cv1 := fun W (hb : Below W0.heap.size W0 W) => conv_bytes (P := Tryz.prog) (c := x.cs) 26 9 5 Tryz.underlying26 Tryz.underlying5 Tryz.underlying9 (a0.sn.below hb)
  have cv2 := fun W (hb : Below W0.heap.size W0 W) => conv_bytes (P := Tryz.prog) (c := y.cs) 26 9 5 Tryz.underlying26 Tryz.underlying5 Tryz.underlying9 (a1.sn.below hb)
  have F : ∀ W, Below W0.heap.size W0 W → (W.cell? ⟨w.heap.size, 0, none⟩ = some (.int .i64 x.tm) ∧ W.cell? ⟨w.heap.size, 1, none⟩ = some (.int .i64 x.vt) ∧ W.cell? ⟨w.heap.size, 2, none⟩ = some (.int .i64 x.b) ∧ W.cell? ⟨w.heap.size, 3, none⟩ = some (.int .i64 x.t) ∧ W.cell? ⟨w.heap.size, 4, none⟩ = some (.slice x.A x.n x.c) ∧ W.cell? ⟨w.heap.size, 5, none⟩ = some (.slice x.C x.nc x.cc) ∧ W.cell? ⟨w.heap.size, 6, none⟩ = some (.slice x.S x.ns x.cs)) ∧ (W.cell? ⟨w.heap.size + 1, 0, none⟩ = some (.int .i64 y.tm) ∧ W.cell? ⟨w.heap.size + 1, 1, none⟩ = some (.int .i64 y.vt) ∧ W.cell? ⟨w.heap.size + 1, 2, none⟩ = some (.int .i64 y.b) ∧ W.cell? ⟨w.heap.size + 1, 3, none⟩ = some (.int .i64 y.t) ∧ W.cell? ⟨w.heap.size + 1, 4, none⟩ = some (.slice y.A y.n y.c) ∧ W.cell? ⟨w.heap.size + 1, 5, none⟩ = some (.slice y.C y.nc y.cc) ∧ W.cell? ⟨w.heap.size + 1, 6, none⟩ = some (.slice y.S y.ns y.cs)) := fun W hb => ⟨Sv.c7 (b0.below hb), Sv.c7 (b1.below hb)⟩
  obtain ⟨⟨c0, c1, c2, c3, c4, c5, c6⟩, d0, d1, d2, d3, d4, d5, d6⟩ := F W0 (Below.refl _ _)
  have q1 : (x.tm == y.tm) = true := by simpa using k1
  have q2 : (x.vt == y.vt) = true := by simpa using k2
  have q7 : (x.sn == y.sn) = true := by simpa using k7
  have HW := Lib.hid hW0
  have B := Lib.hid hbe
  have Hlg := Lib.hid hlg
  have Hin := Lib.hid hin
  have CV := Lib.hid (And.intro cv1 cv2)
  have FF := Lib.hid F
  clear hW0 b0 b1 hbe a0 a1 hlg hin cv1 cv2 F hx hy fx fy hst hm htab e1 e2 e3 e4 e5 e6 e7 k1 k2 k6 k7
  unfold Sv.val stA
  go_enter Tryz.func46, Tryz.ntmps46
  go_upto_region 1 with (fail)
  have HW' := HW.out
  unfold Sv.cells at HW'
  rw [← HW']
  clear HW'
  go_wp2_with fail
  refine Hlg.out.mono ?_
  rintro e w1 ⟨rfl, hb1⟩
  have K1 := Lib.hid hb1
  clear hb1 c0 c1 c2 c3 c4 c5 c6 d0 d1 d2 d3 d4 d5 d6
  obtain ⟨⟨c0, c1, c2, c3, c4, c5, c6⟩, d0, d1, d2, d3, d4, d5, d6⟩ := FF.out w1 K1.out
  go_wp2_with fail
  refine (Hin.out w1 K1.out).mono ?_
  rintro e w2 ⟨rfl, hb2⟩
  have K2 := Lib.hid (K1.out.trans (hb2.mono K1.out.size))
  clear hb2 c0 c1 c2 c3 c4 c5 c6 d0 d1 d2 d3 d4 d5 d6
  obtain ⟨⟨c0, c1, c2, c3, c4, c5, c6⟩, d0, d1, d2, d3, d4, d5, d6⟩ := FF.out w2 K2.out
  have v1 := CV.out.1 w2 K2.out
  have v2 := CV.out.2 w2 K2.out
  go_wp2_with fail
  go_ret
  exact ⟨rfl, B.out.trans (K2.out.mono B.out.size)⟩
end Go.Proofs.YtmhaahcbmdhinaaGreatDoor
namespace Go.Proofs.YtmhaahcbmdhinaaGreatDoor
open Go.RowKit
set_option maxRecDepth 100000
set_option linter.unusedVariables false
set_option linter.unusedSimpArgs false
theorem encN_app (a b c : Nat) (d : List UInt8) : encN a b c d = uintL a ++ (uintL b ++ (uintL c ++ (bytesL d ++ []))) := by simp [encN]
theorem encN_inj {a b c a' b' c' : Nat} {d d' : List UInt8} (ha : a < 18446744073709551616) (hb : b < 18446744073709551616) (hc : c < 18446744073709551616) (hd : d.length < 18446744073709551616)
    (ha' : a' < 18446744073709551616) (hb' : b' < 18446744073709551616) (hc' : c' < 18446744073709551616) (hd' : d'.length < 18446744073709551616) (h : encN a b c d = encN a' b' c' d') : a = a' ∧ b = b' ∧ c = c' ∧ d = d' := by
  rw [encN_app, encN_app] at h
  have step : ∀ {u v : Nat} {r s : List UInt8}, u < 18446744073709551616 → v < 18446744073709551616 → uintL u ++ r = uintL v ++ s → u = v ∧ r = s := by
    intro u v r s hu hv he
    have h1 := uintS_lay (most := 18446744073709551615) hu (by omega) r
    have h2 := uintS_lay (most := 18446744073709551615) hv (by omega) s
    rw [he, h2] at h1
    simp only [Prod.mk.injEq] at h1
    exact ⟨h1.2.symm, h1.1.1.symm⟩
  obtain ⟨e1, h⟩ := step ha ha' h
  obtain ⟨e2, h⟩ := step hb hb' h
  obtain ⟨e3, h⟩ := step hc hc' h
  have h1 := bytesS_lay (most := 18446744073709551615) hd (by omega) []
  have h2 := bytesS_lay (most := 18446744073709551615) hd' (by omega) []
  rw [h, h2] at h1
  simp only [Prod.mk.injEq] at h1
  exact ⟨e1, e2, e3, h1.2.symm⟩
theorem encE_inj {x y : Er} (hx : Wt x) (hy : Wt y) (lx : x.d.length = x.n) (ly : y.d.length = y.n) (h : encE (en x) = encE (en y)) : en x = en y := by
  obtain ⟨a, b, c, A, n, m, d⟩ := x
  obtain ⟨a', b', c', A', n', m', d'⟩ := y
  unfold Wt at hx hy
  unfold encE en at h
  dsimp only at hx hy lx ly h
  obtain ⟨e1, e2, e3, e4⟩ := encN_inj (by omega) (by omega) (by omega) (by omega) (by omega) (by omega) (by omega) (by omega) h
  unfold en
  simp only [En.mk.injEq]
  exact ⟨by omega, by omega, by omega, e4⟩
theorem take_snoc_eq {α : Type} {L L' : List α} {k : Nat} {x y : α} (hx : L[k]? = some x) (hy : L'[k]? = some y) (h : L.take k = L'.take k) : (L.take (k + 1) = L'.take (k + 1)) ↔ x = y := by
  rw [List.take_add_one, List.take_add_one, hx, hy, h]
  simp
set_option maxHeartbeats 6400000 in
theorem entries_eqlen (A : Option Addr) (n c : Nat) (L : List Er) (B : Option Addr) (d : Nat) (L' : List Er) (w : World) {ok ok' : Nat → Prop} (hr : Rd w ok 4 A n (flat ecell L)) (hr' : Rd w ok' 4 B n (flat ecell L')) (hd : ∀ x ∈ L, Rd w T 1 x.A x.n (bs x.d)) (hd' : ∀ x ∈ L', Rd w T 1 x.A x.n (bs x.d)) (hw : ∀ x ∈ L, Wt x) (hw' : ∀ x ∈ L', Wt x) (hn : n ≤ 1000000) (htab : TabW w) (res : Bool) (hres : res = true ↔ L.map en = L'.map en) :
    Calls Tryz.prog 165 #[.slice A n c, .slice B n d] w (BoolPost w res) := by
  have hnn : ((n : Int) != (n : Int)) = false := by simp
  have hlen : L.length = n := hr.flen ecell_len (by omega)
  have hlen' : L'.length = n := hr'.flen ecell_len (by omega)
  have henc := fun x (hx : x ∈ L) W (hb : Below w.heap.size w W) => enc_er x W (hw x hx) ((hd x hx).below hb) (htab.below hb (Nat.le_refl _))
  have hencR := fun x (hx : x ∈ L') W (hb : Below w.heap.size w W) => encR_er x W (hw' x hx) ((hd' x hx).below hb)
  have hinj := fun x (hx : x ∈ L) y (hy : y ∈ L') => encE_inj (hw x hx) (hw' y hy) (hd x hx).blen (hd' y hy).blen
  unfold ecA at henc hencR
  have Henc := Lib.hid henc
  have HencR := Lib.hid hencR
  have Hinj := Lib.hid hinj
  have Hr := Lib.hid hr
  have Hr' := Lib.hid hr'
  have HL := Lib.hid (And.intro hlen hlen')
  clear henc hencR hinj hr hr' hd hd' hw hw' htab hlen hlen'
  have Hres := Lib.hid hres
  clear hres
  go_enter Tryz.func165, Tryz.ntmps165
  go_wp2_with fail
  go_loopg [5] n (fun mu s5 wr => ∃ k, mu = n - k ∧ k ≤ n ∧ s5 = .int .i64 (k : Nat) ∧ Below w.heap.size w wr ∧ (L.map en).take k = (L'.map en).take k)
  case atStart => exact ⟨0, by omega, by omega, rfl, Below.refl _ _, by simp⟩
  case round =>
    obtain ⟨k, hmu, hk, rfl, hbe, hpre⟩ := hrel
    have Hmu := Lib.hid hmu
    have Hbe := Lib.hid hbe
    have Hpre := Lib.hid hpre
    clear hmu hpre
    obtain ⟨wq, rfl⟩ : ∃ wq, wq = wr := ⟨_, rfl⟩
    by_cases hlt : k < n
    · obtain ⟨xb, xo, x, hxA, -, -, hx, x0, x1, x2, x3⟩ := er_cells (Hr.out.below hbe) hlt
      obtain ⟨yb, yo, y, hyA, -, -, hy, y0, y1, y2, y3⟩ := er_cells (Hr'.out.below hbe) hlt
      subst hxA hyA
      have hkI : (k : Int) < n := by omega
      have hk0 : (0 : Int) ≤ k := by omega
      have sof : ∀ W, Below wq.heap.size wq W → (W.cell? ⟨xb, xo + k * 4, none⟩ = some (.int .i64 x.a) ∧ W.cell? ⟨xb, xo + k * 4 + 1, none⟩ = some (.int .i64 x.b) ∧ W.cell? ⟨xb, xo + k * 4 + 2, none⟩ = some (.int .i64 x.c) ∧ W.cell? ⟨xb, xo + k * 4 + 3, none⟩ = some (.slice x.A x.n x.m) ∧ W.cell? ⟨yb, yo + k * 4, none⟩ = some (.int .i64 y.a) ∧ W.cell? ⟨yb, yo + k * 4 + 1, none⟩ = some (.int .i64 y.b) ∧ W.cell? ⟨yb, yo + k * 4 + 2, none⟩ = some (.int .i64 y.c) ∧ W.cell? ⟨yb, yo + k * 4 + 3, none⟩ = some (.slice y.A y.n y.m)) :=
        fun W h => ⟨(h.cell (p := ⟨xb, _, none⟩) (World.block_lt_of_cell? wq _ x0)).trans x0, (h.cell (p := ⟨xb, _, none⟩) (World.block_lt_of_cell? wq _ x1)).trans x1, (h.cell (p := ⟨xb, _, none⟩) (World.block_lt_of_cell? wq _ x2)).trans x2, (h.cell (p := ⟨xb, _, none⟩) (World.block_lt_of_cell? wq _ x3)).trans x3, (h.cell (p := ⟨yb, _, none⟩) (World.block_lt_of_cell? wq _ y0)).trans y0, (h.cell (p := ⟨yb, _, none⟩) (World.block_lt_of_cell? wq _ y1)).trans y1, (h.cell (p := ⟨yb, _, none⟩) (World.block_lt_of_cell? wq _ y2)).trans y2, (h.cell (p := ⟨yb, _, none⟩) (World.block_lt_of_cell? wq _ y3)).trans y3⟩
      have he := fun W (hb : Below wq.heap.size wq W) => Henc.out x (List.mem_of_getElem? hx) W (hbe.trans (hb.mono hbe.size))
      have heR := fun W (hb : Below wq.heap.size wq W) => HencR.out y (List.mem_of_getElem? hy) W (hbe.trans (hb.mono hbe.size))
      have hij := Hinj.out x (List.mem_of_getElem? hx) y (List.mem_of_getElem? hy)
      have hex : (L.map en)[k]? = some (en x) := by rw [List.getElem?_map, hx]; rfl
      have hey : (L'.map en)[k]? = some (en y) := by rw [List.getElem?_map, hy]; rfl
      obtain ⟨q, hq⟩ : ∃ q : Bool, q = (encE (en x) == encE (en y)) := ⟨_, rfl⟩
      have hq2 : q = true ↔ (L.map en).take (k + 1) = (L'.map en).take (k + 1) := by
        rw [take_snoc_eq hex hey Hpre.out, hq, beq_iff_eq]
        exact ⟨hij, fun h => by rw [h]⟩
      have Hq2 := Lib.hid hq2
      have Sof := Lib.hid sof
      have He := Lib.hid he
      have HeR := Lib.hid heR
      clear hq2 hij hex hey hx hy sof he heR hbe x0 x1 x2 x3 y0 y1 y2 y3
      generalize encE (en x) = E at He hq
      generalize encE (en y) = E' at HeR hq
      have Hq := Lib.hid hq
      clear hq
      go_upto_region 6 with (fail)
      go_cut [29] (fun s29 W => s29 = .bool (!q) ∧ Below wq.heap.size wq W)
      case first =>
        refine wp_region_S 12 (fun W => Below wq.heap.size wq W) (.take 0 (.take 1 (.take 2 (.take 3 (.take 6 (.take 7 (.take 8 (.take 9 (.one 4 (.take 5 (.one 10 (.take 11 (.one 12 (.nil)))))))))))))) (by kernel_rfl) (Below.refl _ _).drew (fun _ _ _ _ h => h) (fun hS => ?_)
        repeat (first
          | (refine wpS_take (v := ?_) rfl rfl (by rfl) ?_ ?_; rotate_left; (intro W hW; have hf := Sof.out W hW; go_split_ands; go_simp; try with_reducible rfl); try simp only [Act.put, List.setIfInBounds_toArray, List.set_cons_zero, List.set_cons_succ])
          | (refine wpS_skip rfl rfl (by rfl) ?_; try simp only [Act.put, List.setIfInBounds_toArray, List.set_cons_zero, List.set_cons_succ]))
        refine wpS_one rfl (by rfl) (fun K hK => ?_)
        go_simp
        go_at_call 196
        refine (He.out _ hS).mono ?_
        rintro e w1 ⟨A1, n1, c1, rfl, h1, hb1⟩
        have hS1 : Below wq.heap.size wq w1 := hS.trans (hb1.mono hS.size)
        have r1 := Rd.of_own h1
        have cv1 := fun W (hb : Below w1.heap.size w1 W) => conv_bytes (P := Tryz.prog) (c := c1) 26 9 5 Tryz.underlying26 Tryz.underlying5 Tryz.underlying9 (r1.below hb)
        have CV1 := Lib.hid cv1
        clear cv1 h1
        refine hK (fun W => Below w1.heap.size w1 W) _ _ (fun W h => hS1.trans (h.mono hS1.size)) (Below.refl _ _) ?_
        clear hK K
        try simp only [Act.put, List.setIfInBounds_toArray, List.set_cons_zero, List.set_cons_succ]
        repeat (first
          | (refine wpS_take (v := ?_) rfl rfl (by rfl) ?_ ?_; rotate_left; (intro W hW; have hf := CV1.out W hW; go_split_ands; go_simp; try with_reducible rfl); try simp only [Act.put, List.setIfInBounds_toArray, List.set_cons_zero, List.set_cons_succ])
          | (refine wpS_skip rfl rfl (by rfl) ?_; try simp only [Act.put, List.setIfInBounds_toArray, List.set_cons_zero, List.set_cons_succ]))
        refine wpS_one rfl (by rfl) (fun K hK => ?_)
        go_simp
        go_at_call 200
        refine (HeR.out _ hS1).mono ?_
        rintro e w2 ⟨A2, n2, c2, rfl, h2, hb2⟩
        have hS2 : Below wq.heap.size wq w2 := hS1.trans (hb2.mono hS1.size)
        have r2 := Rd.of_own h2
        have cv2 := fun W (hb : Below w2.heap.size w2 W) => conv_bytes (P := Tryz.prog) (c := c2) 26 9 5 Tryz.underlying26 Tryz.underlying5 Tryz.underlying9 (r2.below hb)
        have CV2 := Lib.hid cv2
        clear cv2 h2
        refine hK (fun W => Below w2.heap.size w2 W) _ _ (fun W h => hb2.trans (h.mono hb2.size)) (Below.refl _ _) ?_
        clear hK K
        try simp only [Act.put, List.setIfInBounds_toArray, List.set_cons_zero, List.set_cons_succ]
        repeat (first
          | (refine wpS_take (v := ?_) rfl rfl (by rfl) ?_ ?_; rotate_left; (intro W hW; have hf := CV2.out W hW; go_split_ands; go_simp; try with_reducible rfl); try simp only [Act.put, List.setIfInBounds_toArray, List.set_cons_zero, List.set_cons_succ])
          | (refine wpS_skip rfl rfl (by rfl) ?_; try simp only [Act.put, List.setIfInBounds_toArray, List.set_cons_zero, List.set_cons_succ]))
        refine wpS_last rfl (by rfl) (fun K hK => ?_)
        go_simp
        refine hK _ _ ?_
        clear hK K
        try simp only [Act.put, List.setIfInBounds_toArray, List.set_cons_zero, List.set_cons_succ]
        refine wpS_nil ?_
        have hne : (E != E') = !q := by rw [Hq.out]; rfl
        have S2 := Lib.hid hS2
        clear hS hS1 hS2 hb1 hb2 CV1 CV2 r1 r2
        try rw [hne]
        go_wp2_with fail
        go_meet
        case rel =>
          have hqe := Hq.out
          exact ⟨by first | rfl | (rw [hne]; done) | (rw [hqe]; done) | (rw [hqe]; rfl) | (rw [hqe]; simp [bne]), S2.out⟩
      case rest =>
        obtain ⟨rfl, hb5⟩ := hcut
        have hb6 := Hbe.out.trans (hb5.mono Hbe.out.size)
        have Hb6 := Lib.hid hb6
        clear hb5 hb6
        cases q with
        | true =>
          go_wp2_with fail
          go_roundg (n - (k + 1))
          case measure => have := Hmu.out; omega
          case rel => exact ⟨k + 1, rfl, by omega, by go_num, Hb6.out, Hq2.out.1 (by trivial)⟩
        | false =>
          go_wp2_with fail
          go_ret
          refine ⟨ret_bool ?_, Hb6.out⟩
          refine (Bool.eq_false_iff.2 fun h0 => ?_).symm
          have h := Hres.out.1 h0
          have := Hq2.out.2 (by rw [h])
          cases this
    · have hdd : decide ((k : Int) < (n : Int)) = false := by simp; omega
      go_wp2_with fail
      go_ret
      refine ⟨ret_bool ?_, hbe⟩
      refine (Hres.out.2 ?_).symm
      have := Hpre.out
      rw [List.take_of_length_le (by rw [List.length_map, HL.out.1]; omega), List.take_of_length_le (by rw [List.length_map, HL.out.2]; omega)] at this
      exact this
theorem entries_any (A : Option Addr) (n c : Nat) (L : List Er) (B : Option Addr) (m d : Nat) (L' : List Er) (w : World) {ok ok' : Nat → Prop} (hr : Rd w ok 4 A n (flat ecell L)) (hr' : Rd w ok' 4 B m (flat ecell L')) (hd : ∀ x ∈ L, Rd w T 1 x.A x.n (bs x.d)) (hd' : ∀ x ∈ L', Rd w T 1 x.A x.n (bs x.d)) (hw : ∀ x ∈ L, Wt x) (hw' : ∀ x ∈ L', Wt x) (hn : n ≤ 1000000) (htab : TabW w) (res : Bool) (hres : res = true ↔ L.map en = L'.map en) :
    Calls Tryz.prog 165 #[.slice A n c, .slice B m d] w (BoolPost w res) := by
  by_cases e : n = m
  · subst e
    exact entries_eqlen A n c L B d L' w hr hr' hd hd' hw hw' hn htab res hres
  · have h1 : res = false := Bool.eq_false_iff.2 fun h0 => by
      have h := hres.1 h0
      have := congrArg List.length h
      rw [List.length_map, List.length_map, hr.flen ecell_len (by omega), hr'.flen ecell_len (by omega)] at this
      exact e this
    rw [h1]
    exact entries_no A n c B m d w e
end Go.Proofs.YtmhaahcbmdhinaaGreatDoor
