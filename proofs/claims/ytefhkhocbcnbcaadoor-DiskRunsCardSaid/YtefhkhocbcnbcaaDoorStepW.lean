/- The walk of one deed at the disk and at the document's: printed by mkstep.py. -/
import Derived.Test.YtefhkhocbcnbcaaDoorStep3
namespace Go.Proofs.YtefhkhocbcnbcaaDoor
open Go.RowKit
set_option maxRecDepth 100000
set_option linter.unusedVariables false
set_option linter.unusedSimpArgs false
section
variable {L ok : Nat → Prop} {g z m : Nat} {D : Dk} {R : R3} {y : Ac} {BA LA : Option Addr} {bn bc ln lc : Nat} {ls : List Wq}
theorem numD (k : Int) (w : World) (hg : ErrT w) : Calls Tryd.prog 16 #[errD k] w fun e w' => e = .returned (.int .i64 k) ∧ Below w.heap.size w w' := num_any k w hg

set_option maxHeartbeats 3200000 in
theorem stepSync3 (w : World) (hd : DX w L g D z) (ho : ∀ b, ok b → ¬ L b) (hx : RS w ok R BA bn bc LA ln lc ls) (hrel : Rel m D R) (hm : m ≤ 1000) (hq : D.q.length ≤ 1000) (hz : z ≤ 4194304)
    (hy1 : Rd w ok 1 y.A y.n (bs y.d) ∧ y.n ≤ y.m ∧ y.m ≤ maxLen) (hy2 : Rd w ok 1 y.K y.kn (ii y.k) ∧ (∀ z ∈ y.k, I64 z) ∧ y.kn * 8 ≤ reachBytes) (hy : I64 y.a ∧ I64 y.b ∧ I64 y.c) (hg : ErrT w) (h0 : ¬ L 0) (hK : y.a % 8 = 3) :
    Calls Tryd.prog 8 #[.pointer (some ⟨g, 0, none⟩), rval R BA bn bc LA ln lc, .agg #[.int .i64 y.a, .int .i64 y.b, .int .i64 y.c, .slice y.A y.n y.m, .slice y.K y.kn y.km]] w (StepPost3 w L ok g (D.act y).1 (R.act y).1 z) := by
  have eD : D.act y = D.sync := by unfold Dk.act kindL; rw [if_pos (by omega)]
  have eR : R.act y = R.sync := by unfold R3.act kindL; rw [if_pos (by omega)]
  rw [eD, eR]
  obtain ⟨W0, hW0⟩ : ∃ W0, W0 = (((w.alloc (.cells #[.slice BA bn bc, .slice LA ln lc, .int .i64 R.armed, .bool R.off] 31)).alloc (.cells #[.int .i64 y.a, .int .i64 y.b, .int .i64 y.c, .slice y.A y.n y.m, .slice y.K y.kn y.km] 38)).alloc (.cells #[.slice none 0 0, .slice none 0 0, .int .i64 0, .bool false] 31)) := ⟨_, rfl⟩
  have hB := base3 w L #[.slice BA bn bc, .slice LA ln lc, .int .i64 R.armed, .bool R.off] #[.int .i64 y.a, .int .i64 y.b, .int .i64 y.c, .slice y.A y.n y.m, .slice y.K y.kn y.km] hd.lt
  rw [← hW0] at hB
  have hok := hd.ok
  have hbl : bn = z := by rw [← hx.blen]; exact hrel.blen hok
  have hll : ln ≤ 1000 := by rw [← hx.qlen, hrel.qlen]; exact hq
  have hmx : maxLen = 9223372036854775807 := by decide
  have hcD := sync_any W0 (hd.below hB.be) (by omega)
  unfold SyncPost at hcD
  obtain ⟨ek, -⟩ := hrel.sync hm hok
  obtain ⟨k, hk⟩ : ∃ k, k = D.sync.2 := ⟨_, rfl⟩
  rw [← hk] at hcD ek
  have hcR := fun w1 (h1 : Kept L W0 w1) => sync3_any w1 (hB.rows h1 ho hx) (by rw [hbl]; exact hrel.fit hok) (by omega) (by omega) (hrel.bounds hm hok)
  unfold R3Post at hcR
  rw [ek] at hcR
  obtain ⟨R', hR'⟩ : ∃ R', R' = R.sync.1 := ⟨_, rfl⟩
  obtain ⟨D', hD'⟩ : ∃ D', D' = D.sync.1 := ⟨_, rfl⟩
  rw [← hR'] at hcR ⊢
  rw [← hD'] at hcD ⊢
  have HB := Lib.hid hB
  have HW0 := Lib.hid hW0
  have HcR := Lib.hid hcR
  have Hg := Lib.hid hg
  have H0 := Lib.hid h0
  have Ho := Lib.hid ho
  clear hB hW0 hcR hg h0 ho hd hx hrel eD eR hbl hy1 hy2 hy hok ek hk hR' hD'
  unfold rval at HcR ⊢
  obtain ⟨hK1, hK2⟩ := kind_is hK
  clear hK
  go_enter Tryd.func8, Tryd.ntmps8
  go_wp2_with fail
  rw [← HW0.out]
  refine hcD.mono ?_
  rintro e w1 ⟨rfl, ha⟩
  obtain ⟨L', j1, j2, j3⟩ := ha
  obtain ⟨x0, x1, x2⟩ := HB.out.bxs j3
  obtain ⟨q0, q1, q2, q3, f0, f1, f2, f3⟩ := x0.c4
  have a0 : w1.cell? ⟨w.heap.size + 1, 1, none⟩ = some (.int .i64 y.b) := x1.c 1
  have a1 : w1.cell? ⟨w.heap.size + 1, 2, none⟩ = some (.int .i64 y.c) := x1.c 2
  have a2 : w1.cell? ⟨w.heap.size + 1, 3, none⟩ = some (.slice y.A y.n y.m) := x1.c 3
  have a3 : w1.cell? ⟨w.heap.size + 1, 4, none⟩ = some (.slice y.K y.kn y.km) := x1.c 4
  have hc := HcR.out w1 j3
  have Ha := Lib.hid (⟨L', j1, j2, j3⟩ : Aft W0 L g D' z w1)
  have Hc := Lib.hid hc
  clear j1 j2 j3 x0 x1 x2 hc
  go_wp2_with fail
  refine Hc.out.mono ?_
  rintro e w2 ⟨v, rfl, ⟨BA2, bn2, bc2, LA2, ln2, lc2, ls2, rfl, hx2⟩, hb2⟩
  unfold rval
  have hm3 := HB.out.mid Ho.out Ha.out hx2 hb2
  obtain ⟨Wm, hWm⟩ : ∃ Wm, Wm = ((((w2.setCell ⟨w.heap.size, 0, none⟩ (.slice BA2 bn2 bc2)).setCell ⟨w.heap.size, 1, none⟩ (.slice LA2 ln2 lc2)).setCell ⟨w.heap.size, 2, none⟩ (.int .i64 R'.armed)).setCell ⟨w.heap.size, 3, none⟩ (.bool R'.off)) := ⟨_, rfl⟩
  rw [← hWm] at hm3
  obtain ⟨y0, y1, y2, y3, g0, g1, g2, g3⟩ := ((Aft.bx Ha.out HB.out).below hb2).c4
  have HWm := Lib.hid hWm
  have Hm3 := Lib.hid hm3
  clear hWm hm3 hx2 hb2 q0 q1 q2 q3 f0 f1 f2 f3 a0 a1 a2 a3
  go_upto_region 19 with (fail)
  rw [← HWm.out]
  clear y0 y1 y2 y3 g0 g1 g2 g3
  obtain ⟨u0, u1, u2, u3, -⟩ := Hm3.out.x0.c4
  have F0 := Hm3.out.x2.fr (k := 4) rfl
  have sof : ∀ W, Fr Wm (w.heap.size + 2) 4 W → (Fr Wm (w.heap.size + 2) 4 W ∧ W.cell? ⟨w.heap.size, 0, none⟩ = some (.slice BA2 bn2 bc2) ∧ W.cell? ⟨w.heap.size, 1, none⟩ = some (.slice LA2 ln2 lc2) ∧ W.cell? ⟨w.heap.size, 2, none⟩ = some (.int .i64 R'.armed) ∧ W.cell? ⟨w.heap.size, 3, none⟩ = some (.bool R'.off) ∧ W.cell? ⟨w.heap.size + 2, 0, none⟩ = some (peek W (w.heap.size + 2) 0) ∧ W.cell? ⟨w.heap.size + 2, 1, none⟩ = some (peek W (w.heap.size + 2) 1) ∧ W.cell? ⟨w.heap.size + 2, 2, none⟩ = some (peek W (w.heap.size + 2) 2) ∧ W.cell? ⟨w.heap.size + 2, 3, none⟩ = some (peek W (w.heap.size + 2) 3) ∧ W.frozen? ⟨w.heap.size + 2, 0, none⟩ = false ∧ W.frozen? ⟨w.heap.size + 2, 1, none⟩ = false ∧ W.frozen? ⟨w.heap.size + 2, 2, none⟩ = false ∧ W.frozen? ⟨w.heap.size + 2, 3, none⟩ = false) := fun W F => ⟨F, F.cell (by omega) u0, F.cell (by omega) u1, F.cell (by omega) u2, F.cell (by omega) u3, F.pk (by omega), F.pk (by omega), F.pk (by omega), F.pk (by omega), F.fz _, F.fz _, F.fz _, F.fz _⟩
  have hnum : ∀ W, Fr Wm (w.heap.size + 2) 4 W → Calls Tryd.prog 16 #[errD k] W fun e w' => e = .returned (.int .i64 k) ∧ Below W.heap.size W w' := fun W F => numD k W (F.cell (by omega) (Hm3.out.err Hg.out H0.out))
  have Hnum := Lib.hid hnum
  have s0 := sof _ F0
  clear hnum u0 u1 u2 u3
  go_split_ands
  go_region_held3 (fun W => (Fr Wm (w.heap.size + 2) 4 W ∧ W.cell? ⟨w.heap.size, 0, none⟩ = some (.slice BA2 bn2 bc2) ∧ W.cell? ⟨w.heap.size, 1, none⟩ = some (.slice LA2 ln2 lc2) ∧ W.cell? ⟨w.heap.size, 2, none⟩ = some (.int .i64 R'.armed) ∧ W.cell? ⟨w.heap.size, 3, none⟩ = some (.bool R'.off) ∧ W.cell? ⟨w.heap.size + 2, 0, none⟩ = some (peek W (w.heap.size + 2) 0) ∧ W.cell? ⟨w.heap.size + 2, 1, none⟩ = some (peek W (w.heap.size + 2) 1) ∧ W.cell? ⟨w.heap.size + 2, 2, none⟩ = some (peek W (w.heap.size + 2) 2) ∧ W.cell? ⟨w.heap.size + 2, 3, none⟩ = some (peek W (w.heap.size + 2) 3) ∧ W.frozen? ⟨w.heap.size + 2, 0, none⟩ = false ∧ W.frozen? ⟨w.heap.size + 2, 1, none⟩ = false ∧ W.frozen? ⟨w.heap.size + 2, 2, none⟩ = false ∧ W.frozen? ⟨w.heap.size + 2, 3, none⟩ = false)) ((refine sof _ ?_; first | exact F0.drew | (go_split_ands; exact Fr.below (by assumption) (by assumption)) | (go_split_ands; exact Fr.set (Fr.set (Fr.set (Fr.set (by assumption) _ _) _ _) _ _) _ _))) (first
    | (go_at_call 16; refine (Hnum.out _ (by go_split_ands; assumption)).mono ?_; rintro e w4 ⟨rfl, hb4⟩; have F4 : Fr Wm (w.heap.size + 2) 4 w4 := Fr.below (by go_split_ands; assumption) hb4))
  all_goals
    have q0 : w4.cell? ⟨w.heap.size + 2, 0, none⟩ = some (peek w4 (w.heap.size + 2) 0) := F4.pk (by omega)
    have q1 : w4.cell? ⟨w.heap.size + 2, 1, none⟩ = some (peek w4 (w.heap.size + 2) 1) := F4.pk (by omega)
    have q2 : w4.cell? ⟨w.heap.size + 2, 2, none⟩ = some (peek w4 (w.heap.size + 2) 2) := F4.pk (by omega)
    have q3 : w4.cell? ⟨w.heap.size + 2, 3, none⟩ = some (peek w4 (w.heap.size + 2) 3) := F4.pk (by omega)
    have FF := Fr.set (Fr.set (Fr.set (Fr.set F4 0 (.slice BA2 bn2 bc2)) 1 (.slice LA2 ln2 lc2)) 2 (.int .i64 R'.armed)) 3 (.bool R'.off)
    go_wp2_with fail
    refine bodyPost_ret (by simp [results, Tryd.results8, go_sem, q0, q1, q2, q3]; rfl) rfl ?_
    exact Hm3.out.end_ FF

set_option maxHeartbeats 3200000 in
theorem stepSync4 (w : World) (hd : DX w L g D z) (ho : ∀ b, ok b → ¬ L b) (hx : RS w ok R BA bn bc LA ln lc ls) (hrel : Rel m D R) (hm : m ≤ 1000) (hq : D.q.length ≤ 1000) (hz : z ≤ 4194304)
    (hy1 : Rd w ok 1 y.A y.n (bs y.d) ∧ y.n ≤ y.m ∧ y.m ≤ maxLen) (hy2 : Rd w ok 1 y.K y.kn (ii y.k) ∧ (∀ z ∈ y.k, I64 z) ∧ y.kn * 8 ≤ reachBytes) (hy : I64 y.a ∧ I64 y.b ∧ I64 y.c) (hg : ErrT w) (h0 : ¬ L 0) (hK : y.a % 8 = 4) :
    Calls Tryd.prog 8 #[.pointer (some ⟨g, 0, none⟩), rval R BA bn bc LA ln lc, .agg #[.int .i64 y.a, .int .i64 y.b, .int .i64 y.c, .slice y.A y.n y.m, .slice y.K y.kn y.km]] w (StepPost3 w L ok g (D.act y).1 (R.act y).1 z) := by
  have eD : D.act y = D.sync := by unfold Dk.act kindL; rw [if_pos (by omega)]
  have eR : R.act y = R.sync := by unfold R3.act kindL; rw [if_pos (by omega)]
  rw [eD, eR]
  obtain ⟨W0, hW0⟩ : ∃ W0, W0 = (((w.alloc (.cells #[.slice BA bn bc, .slice LA ln lc, .int .i64 R.armed, .bool R.off] 31)).alloc (.cells #[.int .i64 y.a, .int .i64 y.b, .int .i64 y.c, .slice y.A y.n y.m, .slice y.K y.kn y.km] 38)).alloc (.cells #[.slice none 0 0, .slice none 0 0, .int .i64 0, .bool false] 31)) := ⟨_, rfl⟩
  have hB := base3 w L #[.slice BA bn bc, .slice LA ln lc, .int .i64 R.armed, .bool R.off] #[.int .i64 y.a, .int .i64 y.b, .int .i64 y.c, .slice y.A y.n y.m, .slice y.K y.kn y.km] hd.lt
  rw [← hW0] at hB
  have hok := hd.ok
  have hbl : bn = z := by rw [← hx.blen]; exact hrel.blen hok
  have hll : ln ≤ 1000 := by rw [← hx.qlen, hrel.qlen]; exact hq
  have hmx : maxLen = 9223372036854775807 := by decide
  have hcD := sync_any W0 (hd.below hB.be) (by omega)
  unfold SyncPost at hcD
  obtain ⟨ek, -⟩ := hrel.sync hm hok
  obtain ⟨k, hk⟩ : ∃ k, k = D.sync.2 := ⟨_, rfl⟩
  rw [← hk] at hcD ek
  have hcR := fun w1 (h1 : Kept L W0 w1) => sync3_any w1 (hB.rows h1 ho hx) (by rw [hbl]; exact hrel.fit hok) (by omega) (by omega) (hrel.bounds hm hok)
  unfold R3Post at hcR
  rw [ek] at hcR
  obtain ⟨R', hR'⟩ : ∃ R', R' = R.sync.1 := ⟨_, rfl⟩
  obtain ⟨D', hD'⟩ : ∃ D', D' = D.sync.1 := ⟨_, rfl⟩
  rw [← hR'] at hcR ⊢
  rw [← hD'] at hcD ⊢
  have HB := Lib.hid hB
  have HW0 := Lib.hid hW0
  have HcR := Lib.hid hcR
  have Hg := Lib.hid hg
  have H0 := Lib.hid h0
  have Ho := Lib.hid ho
  clear hB hW0 hcR hg h0 ho hd hx hrel eD eR hbl hy1 hy2 hy hok ek hk hR' hD'
  unfold rval at HcR ⊢
  obtain ⟨hK1, hK2⟩ := kind_is hK
  clear hK
  go_enter Tryd.func8, Tryd.ntmps8
  go_wp2_with fail
  rw [← HW0.out]
  refine hcD.mono ?_
  rintro e w1 ⟨rfl, ha⟩
  obtain ⟨L', j1, j2, j3⟩ := ha
  obtain ⟨x0, x1, x2⟩ := HB.out.bxs j3
  obtain ⟨q0, q1, q2, q3, f0, f1, f2, f3⟩ := x0.c4
  have a0 : w1.cell? ⟨w.heap.size + 1, 1, none⟩ = some (.int .i64 y.b) := x1.c 1
  have a1 : w1.cell? ⟨w.heap.size + 1, 2, none⟩ = some (.int .i64 y.c) := x1.c 2
  have a2 : w1.cell? ⟨w.heap.size + 1, 3, none⟩ = some (.slice y.A y.n y.m) := x1.c 3
  have a3 : w1.cell? ⟨w.heap.size + 1, 4, none⟩ = some (.slice y.K y.kn y.km) := x1.c 4
  have hc := HcR.out w1 j3
  have Ha := Lib.hid (⟨L', j1, j2, j3⟩ : Aft W0 L g D' z w1)
  have Hc := Lib.hid hc
  clear j1 j2 j3 x0 x1 x2 hc
  go_wp2_with fail
  refine Hc.out.mono ?_
  rintro e w2 ⟨v, rfl, ⟨BA2, bn2, bc2, LA2, ln2, lc2, ls2, rfl, hx2⟩, hb2⟩
  unfold rval
  have hm3 := HB.out.mid Ho.out Ha.out hx2 hb2
  obtain ⟨Wm, hWm⟩ : ∃ Wm, Wm = ((((w2.setCell ⟨w.heap.size, 0, none⟩ (.slice BA2 bn2 bc2)).setCell ⟨w.heap.size, 1, none⟩ (.slice LA2 ln2 lc2)).setCell ⟨w.heap.size, 2, none⟩ (.int .i64 R'.armed)).setCell ⟨w.heap.size, 3, none⟩ (.bool R'.off)) := ⟨_, rfl⟩
  rw [← hWm] at hm3
  obtain ⟨y0, y1, y2, y3, g0, g1, g2, g3⟩ := ((Aft.bx Ha.out HB.out).below hb2).c4
  have HWm := Lib.hid hWm
  have Hm3 := Lib.hid hm3
  clear hWm hm3 hx2 hb2 q0 q1 q2 q3 f0 f1 f2 f3 a0 a1 a2 a3
  go_upto_region 19 with (fail)
  rw [← HWm.out]
  clear y0 y1 y2 y3 g0 g1 g2 g3
  obtain ⟨u0, u1, u2, u3, -⟩ := Hm3.out.x0.c4
  have F0 := Hm3.out.x2.fr (k := 4) rfl
  have sof : ∀ W, Fr Wm (w.heap.size + 2) 4 W → (Fr Wm (w.heap.size + 2) 4 W ∧ W.cell? ⟨w.heap.size, 0, none⟩ = some (.slice BA2 bn2 bc2) ∧ W.cell? ⟨w.heap.size, 1, none⟩ = some (.slice LA2 ln2 lc2) ∧ W.cell? ⟨w.heap.size, 2, none⟩ = some (.int .i64 R'.armed) ∧ W.cell? ⟨w.heap.size, 3, none⟩ = some (.bool R'.off) ∧ W.cell? ⟨w.heap.size + 2, 0, none⟩ = some (peek W (w.heap.size + 2) 0) ∧ W.cell? ⟨w.heap.size + 2, 1, none⟩ = some (peek W (w.heap.size + 2) 1) ∧ W.cell? ⟨w.heap.size + 2, 2, none⟩ = some (peek W (w.heap.size + 2) 2) ∧ W.cell? ⟨w.heap.size + 2, 3, none⟩ = some (peek W (w.heap.size + 2) 3) ∧ W.frozen? ⟨w.heap.size + 2, 0, none⟩ = false ∧ W.frozen? ⟨w.heap.size + 2, 1, none⟩ = false ∧ W.frozen? ⟨w.heap.size + 2, 2, none⟩ = false ∧ W.frozen? ⟨w.heap.size + 2, 3, none⟩ = false) := fun W F => ⟨F, F.cell (by omega) u0, F.cell (by omega) u1, F.cell (by omega) u2, F.cell (by omega) u3, F.pk (by omega), F.pk (by omega), F.pk (by omega), F.pk (by omega), F.fz _, F.fz _, F.fz _, F.fz _⟩
  have hnum : ∀ W, Fr Wm (w.heap.size + 2) 4 W → Calls Tryd.prog 16 #[errD k] W fun e w' => e = .returned (.int .i64 k) ∧ Below W.heap.size W w' := fun W F => numD k W (F.cell (by omega) (Hm3.out.err Hg.out H0.out))
  have Hnum := Lib.hid hnum
  have s0 := sof _ F0
  clear hnum u0 u1 u2 u3
  go_split_ands
  go_region_held3 (fun W => (Fr Wm (w.heap.size + 2) 4 W ∧ W.cell? ⟨w.heap.size, 0, none⟩ = some (.slice BA2 bn2 bc2) ∧ W.cell? ⟨w.heap.size, 1, none⟩ = some (.slice LA2 ln2 lc2) ∧ W.cell? ⟨w.heap.size, 2, none⟩ = some (.int .i64 R'.armed) ∧ W.cell? ⟨w.heap.size, 3, none⟩ = some (.bool R'.off) ∧ W.cell? ⟨w.heap.size + 2, 0, none⟩ = some (peek W (w.heap.size + 2) 0) ∧ W.cell? ⟨w.heap.size + 2, 1, none⟩ = some (peek W (w.heap.size + 2) 1) ∧ W.cell? ⟨w.heap.size + 2, 2, none⟩ = some (peek W (w.heap.size + 2) 2) ∧ W.cell? ⟨w.heap.size + 2, 3, none⟩ = some (peek W (w.heap.size + 2) 3) ∧ W.frozen? ⟨w.heap.size + 2, 0, none⟩ = false ∧ W.frozen? ⟨w.heap.size + 2, 1, none⟩ = false ∧ W.frozen? ⟨w.heap.size + 2, 2, none⟩ = false ∧ W.frozen? ⟨w.heap.size + 2, 3, none⟩ = false)) ((refine sof _ ?_; first | exact F0.drew | (go_split_ands; exact Fr.below (by assumption) (by assumption)) | (go_split_ands; exact Fr.set (Fr.set (Fr.set (Fr.set (by assumption) _ _) _ _) _ _) _ _))) (first
    | (go_at_call 16; refine (Hnum.out _ (by go_split_ands; assumption)).mono ?_; rintro e w4 ⟨rfl, hb4⟩; have F4 : Fr Wm (w.heap.size + 2) 4 w4 := Fr.below (by go_split_ands; assumption) hb4))
  all_goals
    have q0 : w4.cell? ⟨w.heap.size + 2, 0, none⟩ = some (peek w4 (w.heap.size + 2) 0) := F4.pk (by omega)
    have q1 : w4.cell? ⟨w.heap.size + 2, 1, none⟩ = some (peek w4 (w.heap.size + 2) 1) := F4.pk (by omega)
    have q2 : w4.cell? ⟨w.heap.size + 2, 2, none⟩ = some (peek w4 (w.heap.size + 2) 2) := F4.pk (by omega)
    have q3 : w4.cell? ⟨w.heap.size + 2, 3, none⟩ = some (peek w4 (w.heap.size + 2) 3) := F4.pk (by omega)
    have FF := Fr.set (Fr.set (Fr.set (Fr.set F4 0 (.slice BA2 bn2 bc2)) 1 (.slice LA2 ln2 lc2)) 2 (.int .i64 R'.armed)) 3 (.bool R'.off)
    go_wp2_with fail
    refine bodyPost_ret (by simp [results, Tryd.results8, go_sem, q0, q1, q2, q3]; rfl) rfl ?_
    exact Hm3.out.end_ FF

set_option maxHeartbeats 3200000 in
theorem stepArm (w : World) (hd : DX w L g D z) (ho : ∀ b, ok b → ¬ L b) (hx : RS w ok R BA bn bc LA ln lc ls) (hrel : Rel m D R) (hm : m ≤ 1000) (hq : D.q.length ≤ 1000) (hz : z ≤ 4194304)
    (hy1 : Rd w ok 1 y.A y.n (bs y.d) ∧ y.n ≤ y.m ∧ y.m ≤ maxLen) (hy2 : Rd w ok 1 y.K y.kn (ii y.k) ∧ (∀ z ∈ y.k, I64 z) ∧ y.kn * 8 ≤ reachBytes) (hy : I64 y.a ∧ I64 y.b ∧ I64 y.c) (hg : ErrT w) (h0 : ¬ L 0) (hK : y.a % 8 = 6) :
    Calls Tryd.prog 8 #[.pointer (some ⟨g, 0, none⟩), rval R BA bn bc LA ln lc, .agg #[.int .i64 y.a, .int .i64 y.b, .int .i64 y.c, .slice y.A y.n y.m, .slice y.K y.kn y.km]] w (StepPost3 w L ok g (D.act y).1 (R.act y).1 z) := by
  have eD : D.act y = (D.arm y.c) := by unfold Dk.act kindL; rw [if_neg (by omega), if_neg (by omega), if_pos (by omega)]
  have eR : R.act y = (R.arm y.c) := by unfold R3.act kindL; rw [if_neg (by omega), if_neg (by omega), if_pos (by omega)]
  rw [eD, eR]
  obtain ⟨W0, hW0⟩ : ∃ W0, W0 = (((w.alloc (.cells #[.slice BA bn bc, .slice LA ln lc, .int .i64 R.armed, .bool R.off] 31)).alloc (.cells #[.int .i64 y.a, .int .i64 y.b, .int .i64 y.c, .slice y.A y.n y.m, .slice y.K y.kn y.km] 38)).alloc (.cells #[.slice none 0 0, .slice none 0 0, .int .i64 0, .bool false] 31)) := ⟨_, rfl⟩
  have hB := base3 w L #[.slice BA bn bc, .slice LA ln lc, .int .i64 R.armed, .bool R.off] #[.int .i64 y.a, .int .i64 y.b, .int .i64 y.c, .slice y.A y.n y.m, .slice y.K y.kn y.km] hd.lt
  rw [← hW0] at hB
  have hok := hd.ok
  have hbl : bn = z := by rw [← hx.blen]; exact hrel.blen hok
  have hll : ln ≤ 1000 := by rw [← hx.qlen, hrel.qlen]; exact hq
  have hmx : maxLen = 9223372036854775807 := by decide
  have hcD := arm_any y.c W0 (hd.below hB.be) hy.2.2
  unfold ArmPost at hcD
  obtain ⟨ek, -⟩ := hrel.arm y.c
  obtain ⟨k, hk⟩ : ∃ k, k = (D.arm y.c).2 := ⟨_, rfl⟩
  rw [← hk] at hcD ek
  have hcR := fun w1 (h1 : Kept L W0 w1) => arm3_any y.c w1 (hB.rows h1 ho hx)
  unfold R3Post at hcR
  rw [ek] at hcR
  obtain ⟨R', hR'⟩ : ∃ R', R' = (R.arm y.c).1 := ⟨_, rfl⟩
  obtain ⟨D', hD'⟩ : ∃ D', D' = (D.arm y.c).1 := ⟨_, rfl⟩
  rw [← hR'] at hcR ⊢
  rw [← hD'] at hcD ⊢
  have HB := Lib.hid hB
  have HW0 := Lib.hid hW0
  have HcR := Lib.hid hcR
  have Hg := Lib.hid hg
  have H0 := Lib.hid h0
  have Ho := Lib.hid ho
  clear hB hW0 hcR hg h0 ho hd hx hrel eD eR hbl hy1 hy2 hy hok ek hk hR' hD'
  unfold rval at HcR ⊢
  obtain ⟨hK1, hK2⟩ := kind_is hK
  clear hK
  go_enter Tryd.func8, Tryd.ntmps8
  go_wp2_with fail
  rw [← HW0.out]
  refine hcD.mono ?_
  rintro e w1 ⟨rfl, ha⟩
  obtain ⟨L', j1, j2, j3⟩ := ha
  obtain ⟨x0, x1, x2⟩ := HB.out.bxs j3
  obtain ⟨q0, q1, q2, q3, f0, f1, f2, f3⟩ := x0.c4
  have a0 : w1.cell? ⟨w.heap.size + 1, 1, none⟩ = some (.int .i64 y.b) := x1.c 1
  have a1 : w1.cell? ⟨w.heap.size + 1, 2, none⟩ = some (.int .i64 y.c) := x1.c 2
  have a2 : w1.cell? ⟨w.heap.size + 1, 3, none⟩ = some (.slice y.A y.n y.m) := x1.c 3
  have a3 : w1.cell? ⟨w.heap.size + 1, 4, none⟩ = some (.slice y.K y.kn y.km) := x1.c 4
  have hc := HcR.out w1 j3
  have Ha := Lib.hid (⟨L', j1, j2, j3⟩ : Aft W0 L g D' z w1)
  have Hc := Lib.hid hc
  clear j1 j2 j3 x0 x1 x2 hc
  go_wp2_with fail
  refine Hc.out.mono ?_
  rintro e w2 ⟨v, rfl, ⟨BA2, bn2, bc2, LA2, ln2, lc2, ls2, rfl, hx2⟩, hb2⟩
  unfold rval
  have hm3 := HB.out.mid Ho.out Ha.out hx2 hb2
  obtain ⟨Wm, hWm⟩ : ∃ Wm, Wm = ((((w2.setCell ⟨w.heap.size, 0, none⟩ (.slice BA2 bn2 bc2)).setCell ⟨w.heap.size, 1, none⟩ (.slice LA2 ln2 lc2)).setCell ⟨w.heap.size, 2, none⟩ (.int .i64 R'.armed)).setCell ⟨w.heap.size, 3, none⟩ (.bool R'.off)) := ⟨_, rfl⟩
  rw [← hWm] at hm3
  obtain ⟨y0, y1, y2, y3, g0, g1, g2, g3⟩ := ((Aft.bx Ha.out HB.out).below hb2).c4
  have HWm := Lib.hid hWm
  have Hm3 := Lib.hid hm3
  clear hWm hm3 hx2 hb2 q0 q1 q2 q3 f0 f1 f2 f3 a0 a1 a2 a3
  go_upto_region 19 with (fail)
  rw [← HWm.out]
  clear y0 y1 y2 y3 g0 g1 g2 g3
  obtain ⟨u0, u1, u2, u3, -⟩ := Hm3.out.x0.c4
  have F0 := Hm3.out.x2.fr (k := 4) rfl
  have sof : ∀ W, Fr Wm (w.heap.size + 2) 4 W → (Fr Wm (w.heap.size + 2) 4 W ∧ W.cell? ⟨w.heap.size, 0, none⟩ = some (.slice BA2 bn2 bc2) ∧ W.cell? ⟨w.heap.size, 1, none⟩ = some (.slice LA2 ln2 lc2) ∧ W.cell? ⟨w.heap.size, 2, none⟩ = some (.int .i64 R'.armed) ∧ W.cell? ⟨w.heap.size, 3, none⟩ = some (.bool R'.off) ∧ W.cell? ⟨w.heap.size + 2, 0, none⟩ = some (peek W (w.heap.size + 2) 0) ∧ W.cell? ⟨w.heap.size + 2, 1, none⟩ = some (peek W (w.heap.size + 2) 1) ∧ W.cell? ⟨w.heap.size + 2, 2, none⟩ = some (peek W (w.heap.size + 2) 2) ∧ W.cell? ⟨w.heap.size + 2, 3, none⟩ = some (peek W (w.heap.size + 2) 3) ∧ W.frozen? ⟨w.heap.size + 2, 0, none⟩ = false ∧ W.frozen? ⟨w.heap.size + 2, 1, none⟩ = false ∧ W.frozen? ⟨w.heap.size + 2, 2, none⟩ = false ∧ W.frozen? ⟨w.heap.size + 2, 3, none⟩ = false) := fun W F => ⟨F, F.cell (by omega) u0, F.cell (by omega) u1, F.cell (by omega) u2, F.cell (by omega) u3, F.pk (by omega), F.pk (by omega), F.pk (by omega), F.pk (by omega), F.fz _, F.fz _, F.fz _, F.fz _⟩
  have hnum : ∀ W, Fr Wm (w.heap.size + 2) 4 W → Calls Tryd.prog 16 #[errD k] W fun e w' => e = .returned (.int .i64 k) ∧ Below W.heap.size W w' := fun W F => numD k W (F.cell (by omega) (Hm3.out.err Hg.out H0.out))
  have Hnum := Lib.hid hnum
  have s0 := sof _ F0
  clear hnum u0 u1 u2 u3
  go_split_ands
  go_region_held3 (fun W => (Fr Wm (w.heap.size + 2) 4 W ∧ W.cell? ⟨w.heap.size, 0, none⟩ = some (.slice BA2 bn2 bc2) ∧ W.cell? ⟨w.heap.size, 1, none⟩ = some (.slice LA2 ln2 lc2) ∧ W.cell? ⟨w.heap.size, 2, none⟩ = some (.int .i64 R'.armed) ∧ W.cell? ⟨w.heap.size, 3, none⟩ = some (.bool R'.off) ∧ W.cell? ⟨w.heap.size + 2, 0, none⟩ = some (peek W (w.heap.size + 2) 0) ∧ W.cell? ⟨w.heap.size + 2, 1, none⟩ = some (peek W (w.heap.size + 2) 1) ∧ W.cell? ⟨w.heap.size + 2, 2, none⟩ = some (peek W (w.heap.size + 2) 2) ∧ W.cell? ⟨w.heap.size + 2, 3, none⟩ = some (peek W (w.heap.size + 2) 3) ∧ W.frozen? ⟨w.heap.size + 2, 0, none⟩ = false ∧ W.frozen? ⟨w.heap.size + 2, 1, none⟩ = false ∧ W.frozen? ⟨w.heap.size + 2, 2, none⟩ = false ∧ W.frozen? ⟨w.heap.size + 2, 3, none⟩ = false)) ((refine sof _ ?_; first | exact F0.drew | (go_split_ands; exact Fr.below (by assumption) (by assumption)) | (go_split_ands; exact Fr.set (Fr.set (Fr.set (Fr.set (by assumption) _ _) _ _) _ _) _ _))) (first
    | (go_at_call 16; refine (Hnum.out _ (by go_split_ands; assumption)).mono ?_; rintro e w4 ⟨rfl, hb4⟩; have F4 : Fr Wm (w.heap.size + 2) 4 w4 := Fr.below (by go_split_ands; assumption) hb4))
  all_goals
    have q0 : w4.cell? ⟨w.heap.size + 2, 0, none⟩ = some (peek w4 (w.heap.size + 2) 0) := F4.pk (by omega)
    have q1 : w4.cell? ⟨w.heap.size + 2, 1, none⟩ = some (peek w4 (w.heap.size + 2) 1) := F4.pk (by omega)
    have q2 : w4.cell? ⟨w.heap.size + 2, 2, none⟩ = some (peek w4 (w.heap.size + 2) 2) := F4.pk (by omega)
    have q3 : w4.cell? ⟨w.heap.size + 2, 3, none⟩ = some (peek w4 (w.heap.size + 2) 3) := F4.pk (by omega)
    have FF := Fr.set (Fr.set (Fr.set (Fr.set F4 0 (.slice BA2 bn2 bc2)) 1 (.slice LA2 ln2 lc2)) 2 (.int .i64 R'.armed)) 3 (.bool R'.off)
    go_wp2_with fail
    refine bodyPost_ret (by simp [results, Tryd.results8, go_sem, q0, q1, q2, q3]; rfl) rfl ?_
    exact Hm3.out.end_ FF

set_option maxHeartbeats 3200000 in
theorem stepWrite (w : World) (hd : DX w L g D z) (ho : ∀ b, ok b → ¬ L b) (hx : RS w ok R BA bn bc LA ln lc ls) (hrel : Rel m D R) (hm : m ≤ 1000) (hq : D.q.length ≤ 1000) (hz : z ≤ 4194304)
    (hy1 : Rd w ok 1 y.A y.n (bs y.d) ∧ y.n ≤ y.m ∧ y.m ≤ maxLen) (hy2 : Rd w ok 1 y.K y.kn (ii y.k) ∧ (∀ z ∈ y.k, I64 z) ∧ y.kn * 8 ≤ reachBytes) (hy : I64 y.a ∧ I64 y.b ∧ I64 y.c) (hg : ErrT w) (h0 : ¬ L 0) (hK : y.a % 8 = 0 ∨ y.a % 8 = 1 ∨ y.a % 8 = 2) :
    Calls Tryd.prog 8 #[.pointer (some ⟨g, 0, none⟩), rval R BA bn bc LA ln lc, .agg #[.int .i64 y.a, .int .i64 y.b, .int .i64 y.c, .slice y.A y.n y.m, .slice y.K y.kn y.km]] w (StepPost3 w L ok g (D.act y).1 (R.act y).1 z) := by
  have eD : D.act y = (D.write y.b y.d) := by unfold Dk.act kindL; rw [if_neg (by omega), if_neg (by omega), if_neg (by omega), if_neg (by omega)]
  have eR : R.act y = (R.put y.b y.d) := by unfold R3.act kindL; rw [if_neg (by omega), if_neg (by omega), if_neg (by omega), if_neg (by omega)]
  rw [eD, eR]
  obtain ⟨W0, hW0⟩ : ∃ W0, W0 = (((w.alloc (.cells #[.slice BA bn bc, .slice LA ln lc, .int .i64 R.armed, .bool R.off] 31)).alloc (.cells #[.int .i64 y.a, .int .i64 y.b, .int .i64 y.c, .slice y.A y.n y.m, .slice y.K y.kn y.km] 38)).alloc (.cells #[.slice none 0 0, .slice none 0 0, .int .i64 0, .bool false] 31)) := ⟨_, rfl⟩
  have hB := base3 w L #[.slice BA bn bc, .slice LA ln lc, .int .i64 R.armed, .bool R.off] #[.int .i64 y.a, .int .i64 y.b, .int .i64 y.c, .slice y.A y.n y.m, .slice y.K y.kn y.km] hd.lt
  rw [← hW0] at hB
  have hok := hd.ok
  have hbl : bn = z := by rw [← hx.blen]; exact hrel.blen hok
  have hll : ln ≤ 1000 := by rw [← hx.qlen, hrel.qlen]; exact hq
  have hmx : maxLen = 9223372036854775807 := by decide
  have hcD := write_any y.b y.A y.n y.m y.d W0 (hd.below hB.be) ((hy1.1.mono ho).below hB.be) hy.2.1 (by omega) (by omega)
  unfold WritePost at hcD
  obtain ⟨ek, -⟩ := hrel.put hm y.b y.d
  obtain ⟨k, hk⟩ : ∃ k, k = (D.write y.b y.d).2 := ⟨_, rfl⟩
  rw [← hk] at hcD ek
  have hcR := fun w1 (h1 : Kept L W0 w1) => put3_any y.b y.A y.n y.m y.d hy.2.1 w1 (hB.rows h1 ho hx) (hB.rd h1 ho hy1.1 (by omega)) hy1.2 (by omega) (by omega) (hrel.bounds hm hok)
  unfold R3Post at hcR
  rw [ek] at hcR
  obtain ⟨R', hR'⟩ : ∃ R', R' = (R.put y.b y.d).1 := ⟨_, rfl⟩
  obtain ⟨D', hD'⟩ : ∃ D', D' = (D.write y.b y.d).1 := ⟨_, rfl⟩
  rw [← hR'] at hcR ⊢
  rw [← hD'] at hcD ⊢
  have HB := Lib.hid hB
  have HW0 := Lib.hid hW0
  have HcR := Lib.hid hcR
  have Hg := Lib.hid hg
  have H0 := Lib.hid h0
  have Ho := Lib.hid ho
  clear hB hW0 hcR hg h0 ho hd hx hrel eD eR hbl hy1 hy2 hy hok ek hk hR' hD'
  unfold rval at HcR ⊢
  obtain ⟨K, hK1, hK2, hK3, hK4, hK5, hK6, hK7⟩ : ∃ K : Int, (IntKind.u64.wrap y.a).tmod 8 = K ∧ wrap64 K = K ∧ (K == (3 : Int)) = false ∧ (K == (4 : Int)) = false ∧ (K == (5 : Int)) = false ∧ (K == (6 : Int)) = false ∧ (K == (7 : Int)) = false := by
    rcases hK with h | h | h
    · exact ⟨0, (kind_is h).1, IntWalk.wrap64_in _ ⟨by omega, by omega⟩, by decide, by decide, by decide, by decide, by decide⟩
    · exact ⟨1, (kind_is h).1, IntWalk.wrap64_in _ ⟨by omega, by omega⟩, by decide, by decide, by decide, by decide, by decide⟩
    · exact ⟨2, (kind_is h).1, IntWalk.wrap64_in _ ⟨by omega, by omega⟩, by decide, by decide, by decide, by decide, by decide⟩
  clear hK
  go_enter Tryd.func8, Tryd.ntmps8
  go_wp2_with fail
  rw [← HW0.out]
  refine hcD.mono ?_
  rintro e w1 ⟨rfl, ha⟩
  obtain ⟨L', j1, j2, j3⟩ := ha
  obtain ⟨x0, x1, x2⟩ := HB.out.bxs j3
  obtain ⟨q0, q1, q2, q3, f0, f1, f2, f3⟩ := x0.c4
  have a0 : w1.cell? ⟨w.heap.size + 1, 1, none⟩ = some (.int .i64 y.b) := x1.c 1
  have a1 : w1.cell? ⟨w.heap.size + 1, 2, none⟩ = some (.int .i64 y.c) := x1.c 2
  have a2 : w1.cell? ⟨w.heap.size + 1, 3, none⟩ = some (.slice y.A y.n y.m) := x1.c 3
  have a3 : w1.cell? ⟨w.heap.size + 1, 4, none⟩ = some (.slice y.K y.kn y.km) := x1.c 4
  have hc := HcR.out w1 j3
  have Ha := Lib.hid (⟨L', j1, j2, j3⟩ : Aft W0 L g D' z w1)
  have Hc := Lib.hid hc
  clear j1 j2 j3 x0 x1 x2 hc
  go_wp2_with fail
  refine Hc.out.mono ?_
  rintro e w2 ⟨v, rfl, ⟨BA2, bn2, bc2, LA2, ln2, lc2, ls2, rfl, hx2⟩, hb2⟩
  unfold rval
  have hm3 := HB.out.mid Ho.out Ha.out hx2 hb2
  obtain ⟨Wm, hWm⟩ : ∃ Wm, Wm = ((((w2.setCell ⟨w.heap.size, 0, none⟩ (.slice BA2 bn2 bc2)).setCell ⟨w.heap.size, 1, none⟩ (.slice LA2 ln2 lc2)).setCell ⟨w.heap.size, 2, none⟩ (.int .i64 R'.armed)).setCell ⟨w.heap.size, 3, none⟩ (.bool R'.off)) := ⟨_, rfl⟩
  rw [← hWm] at hm3
  obtain ⟨y0, y1, y2, y3, g0, g1, g2, g3⟩ := ((Aft.bx Ha.out HB.out).below hb2).c4
  have HWm := Lib.hid hWm
  have Hm3 := Lib.hid hm3
  clear hWm hm3 hx2 hb2 q0 q1 q2 q3 f0 f1 f2 f3 a0 a1 a2 a3
  go_upto_region 19 with (fail)
  rw [← HWm.out]
  clear y0 y1 y2 y3 g0 g1 g2 g3
  obtain ⟨u0, u1, u2, u3, -⟩ := Hm3.out.x0.c4
  have F0 := Hm3.out.x2.fr (k := 4) rfl
  have sof : ∀ W, Fr Wm (w.heap.size + 2) 4 W → (Fr Wm (w.heap.size + 2) 4 W ∧ W.cell? ⟨w.heap.size, 0, none⟩ = some (.slice BA2 bn2 bc2) ∧ W.cell? ⟨w.heap.size, 1, none⟩ = some (.slice LA2 ln2 lc2) ∧ W.cell? ⟨w.heap.size, 2, none⟩ = some (.int .i64 R'.armed) ∧ W.cell? ⟨w.heap.size, 3, none⟩ = some (.bool R'.off) ∧ W.cell? ⟨w.heap.size + 2, 0, none⟩ = some (peek W (w.heap.size + 2) 0) ∧ W.cell? ⟨w.heap.size + 2, 1, none⟩ = some (peek W (w.heap.size + 2) 1) ∧ W.cell? ⟨w.heap.size + 2, 2, none⟩ = some (peek W (w.heap.size + 2) 2) ∧ W.cell? ⟨w.heap.size + 2, 3, none⟩ = some (peek W (w.heap.size + 2) 3) ∧ W.frozen? ⟨w.heap.size + 2, 0, none⟩ = false ∧ W.frozen? ⟨w.heap.size + 2, 1, none⟩ = false ∧ W.frozen? ⟨w.heap.size + 2, 2, none⟩ = false ∧ W.frozen? ⟨w.heap.size + 2, 3, none⟩ = false) := fun W F => ⟨F, F.cell (by omega) u0, F.cell (by omega) u1, F.cell (by omega) u2, F.cell (by omega) u3, F.pk (by omega), F.pk (by omega), F.pk (by omega), F.pk (by omega), F.fz _, F.fz _, F.fz _, F.fz _⟩
  have hnum : ∀ W, Fr Wm (w.heap.size + 2) 4 W → Calls Tryd.prog 16 #[errD k] W fun e w' => e = .returned (.int .i64 k) ∧ Below W.heap.size W w' := fun W F => numD k W (F.cell (by omega) (Hm3.out.err Hg.out H0.out))
  have Hnum := Lib.hid hnum
  have s0 := sof _ F0
  clear hnum u0 u1 u2 u3
  go_split_ands
  go_region_held3 (fun W => (Fr Wm (w.heap.size + 2) 4 W ∧ W.cell? ⟨w.heap.size, 0, none⟩ = some (.slice BA2 bn2 bc2) ∧ W.cell? ⟨w.heap.size, 1, none⟩ = some (.slice LA2 ln2 lc2) ∧ W.cell? ⟨w.heap.size, 2, none⟩ = some (.int .i64 R'.armed) ∧ W.cell? ⟨w.heap.size, 3, none⟩ = some (.bool R'.off) ∧ W.cell? ⟨w.heap.size + 2, 0, none⟩ = some (peek W (w.heap.size + 2) 0) ∧ W.cell? ⟨w.heap.size + 2, 1, none⟩ = some (peek W (w.heap.size + 2) 1) ∧ W.cell? ⟨w.heap.size + 2, 2, none⟩ = some (peek W (w.heap.size + 2) 2) ∧ W.cell? ⟨w.heap.size + 2, 3, none⟩ = some (peek W (w.heap.size + 2) 3) ∧ W.frozen? ⟨w.heap.size + 2, 0, none⟩ = false ∧ W.frozen? ⟨w.heap.size + 2, 1, none⟩ = false ∧ W.frozen? ⟨w.heap.size + 2, 2, none⟩ = false ∧ W.frozen? ⟨w.heap.size + 2, 3, none⟩ = false)) ((refine sof _ ?_; first | exact F0.drew | (go_split_ands; exact Fr.below (by assumption) (by assumption)) | (go_split_ands; exact Fr.set (Fr.set (Fr.set (Fr.set (by assumption) _ _) _ _) _ _) _ _))) (first
    | (go_at_call 16; refine (Hnum.out _ (by go_split_ands; assumption)).mono ?_; rintro e w4 ⟨rfl, hb4⟩; have F4 : Fr Wm (w.heap.size + 2) 4 w4 := Fr.below (by go_split_ands; assumption) hb4))
  all_goals
    have q0 : w4.cell? ⟨w.heap.size + 2, 0, none⟩ = some (peek w4 (w.heap.size + 2) 0) := F4.pk (by omega)
    have q1 : w4.cell? ⟨w.heap.size + 2, 1, none⟩ = some (peek w4 (w.heap.size + 2) 1) := F4.pk (by omega)
    have q2 : w4.cell? ⟨w.heap.size + 2, 2, none⟩ = some (peek w4 (w.heap.size + 2) 2) := F4.pk (by omega)
    have q3 : w4.cell? ⟨w.heap.size + 2, 3, none⟩ = some (peek w4 (w.heap.size + 2) 3) := F4.pk (by omega)
    have FF := Fr.set (Fr.set (Fr.set (Fr.set F4 0 (.slice BA2 bn2 bc2)) 1 (.slice LA2 ln2 lc2)) 2 (.int .i64 R'.armed)) 3 (.bool R'.off)
    go_wp2_with fail
    refine bodyPost_ret (by simp [results, Tryd.results8, go_sem, q0, q1, q2, q3]; rfl) rfl ?_
    exact Hm3.out.end_ FF

set_option maxHeartbeats 3200000 in
theorem stepStart (w : World) (hd : DX w L g D z) (ho : ∀ b, ok b → ¬ L b) (hx : RS w ok R BA bn bc LA ln lc ls) (hrel : Rel m D R) (hm : m ≤ 1000) (hq : D.q.length ≤ 1000) (hz : z ≤ 4194304)
    (hy1 : Rd w ok 1 y.A y.n (bs y.d) ∧ y.n ≤ y.m ∧ y.m ≤ maxLen) (hy2 : Rd w ok 1 y.K y.kn (ii y.k) ∧ (∀ z ∈ y.k, I64 z) ∧ y.kn * 8 ≤ reachBytes) (hy : I64 y.a ∧ I64 y.b ∧ I64 y.c) (hg : ErrT w) (h0 : ¬ L 0) (hK : y.a % 8 = 7) :
    Calls Tryd.prog 8 #[.pointer (some ⟨g, 0, none⟩), rval R BA bn bc LA ln lc, .agg #[.int .i64 y.a, .int .i64 y.b, .int .i64 y.c, .slice y.A y.n y.m, .slice y.K y.kn y.km]] w (StepPost3 w L ok g (D.act y).1 (R.act y).1 z) := by
  have eD : D.act y = (D.started y.k, 0) := by unfold Dk.act kindL; rw [if_neg (by omega), if_neg (by omega), if_neg (by omega), if_pos (by omega)]
  have eR : R.act y = (R.start y.k, 0) := by unfold R3.act kindL; rw [if_neg (by omega), if_neg (by omega), if_neg (by omega), if_pos (by omega)]
  rw [eD, eR]
  obtain ⟨W0, hW0⟩ : ∃ W0, W0 = (((w.alloc (.cells #[.slice BA bn bc, .slice LA ln lc, .int .i64 R.armed, .bool R.off] 31)).alloc (.cells #[.int .i64 y.a, .int .i64 y.b, .int .i64 y.c, .slice y.A y.n y.m, .slice y.K y.kn y.km] 38)).alloc (.cells #[.slice none 0 0, .slice none 0 0, .int .i64 0, .bool false] 31)) := ⟨_, rfl⟩
  have hB := base3 w L #[.slice BA bn bc, .slice LA ln lc, .int .i64 R.armed, .bool R.off] #[.int .i64 y.a, .int .i64 y.b, .int .i64 y.c, .slice y.A y.n y.m, .slice y.K y.kn y.km] hd.lt
  rw [← hW0] at hB
  have hok := hd.ok
  have hbl : bn = z := by rw [← hx.blen]; exact hrel.blen hok
  have hll : ln ≤ 1000 := by rw [← hx.qlen, hrel.qlen]; exact hq
  have hmx : maxLen = 9223372036854775807 := by decide
  have hrb : reachBytes = 140737488351232 := rfl
  have hcO := own_any y.K y.kn y.km y.k W0 (hy2.1.below hB.be) (by omega)
  unfold OwnPost at hcO
  have hcD : ∀ w1 A1 c1, Below W0.heap.size W0 w1 → Rd w1 (W0.heap.size ≤ ·) 1 A1 y.kn (ii y.k) → Calls Tryd.prog 17 #[.pointer (some ⟨g, 0, none⟩), .slice A1 y.kn c1] w1 (fun e w' => e = .returned (.tuple #[]) ∧ Aft W0 L g (D.started y.k) z w') := by
    intro w1 A1 c1 hb1 hr1
    refine (start_any A1 y.kn c1 y.k w1 ((hd.below hB.be).below hb1) hr1.any hy2.2.1 (by omega)).mono ?_
    rintro e w' ⟨rfl, L', h1, h2, h3⟩
    exact ⟨rfl, L', h1, fun b hb => by
      rcases h2 b hb with h | h
      · exact .inl h
      · exact .inr (Nat.le_trans hb1.size h), (Kept.of_new hb1).trans h3 fun b _ h => h⟩
  have hcR := fun w1 (h1 : Kept L W0 w1) => start3_any y.K y.kn y.km y.k w1 (hB.rows h1 ho hx) (by rw [hbl]; exact hrel.fit hok) (by omega) (by omega) (hB.rd h1 ho hy2.1 (by omega)).any hy2.2.1
  unfold Start3Post at hcR
  obtain ⟨R', hR'⟩ : ∃ R', R' = R.start y.k := ⟨_, rfl⟩
  obtain ⟨D', hD'⟩ : ∃ D', D' = D.started y.k := ⟨_, rfl⟩
  rw [← hR'] at hcR ⊢
  rw [← hD'] at hcD ⊢
  dsimp only
  have HcD := Lib.hid hcD
  have HB := Lib.hid hB
  have HW0 := Lib.hid hW0
  have HcR := Lib.hid hcR
  have Hg := Lib.hid hg
  have H0 := Lib.hid h0
  have Ho := Lib.hid ho
  clear hB hW0 hcR hg h0 ho hd hx hrel eD eR hbl hy1 hy2 hy hok hR' hD' hcD
  unfold rval at HcR ⊢
  obtain ⟨hK1, hK2⟩ := kind_is hK
  clear hK
  go_enter Tryd.func8, Tryd.ntmps8
  go_wp2_with fail
  rw [← HW0.out]
  refine hcO.mono ?_
  rintro e w0 ⟨A5, c5, rfl, hr5, hb5⟩
  have hcD5 := HcD.out w0 A5 c5 hb5 hr5
  have HcD5 := Lib.hid hcD5
  clear hcD5 hr5 hb5
  go_wp2_with fail
  refine HcD5.out.mono ?_
  rintro e w1 ⟨rfl, ha⟩
  obtain ⟨L', j1, j2, j3⟩ := ha
  obtain ⟨x0, x1, x2⟩ := HB.out.bxs j3
  obtain ⟨q0, q1, q2, q3, f0, f1, f2, f3⟩ := x0.c4
  have a0 : w1.cell? ⟨w.heap.size + 1, 1, none⟩ = some (.int .i64 y.b) := x1.c 1
  have a1 : w1.cell? ⟨w.heap.size + 1, 2, none⟩ = some (.int .i64 y.c) := x1.c 2
  have a2 : w1.cell? ⟨w.heap.size + 1, 3, none⟩ = some (.slice y.A y.n y.m) := x1.c 3
  have a3 : w1.cell? ⟨w.heap.size + 1, 4, none⟩ = some (.slice y.K y.kn y.km) := x1.c 4
  have hc := HcR.out w1 j3
  have Ha := Lib.hid (⟨L', j1, j2, j3⟩ : Aft W0 L g D' z w1)
  have Hc := Lib.hid hc
  clear j1 j2 j3 x0 x1 x2 hc
  go_wp2_with fail
  refine Hc.out.mono ?_
  rintro e w2 ⟨v, rfl, ⟨BA2, bn2, bc2, LA2, ln2, lc2, ls2, rfl, hx2⟩, hb2⟩
  unfold rval
  have hm3 := HB.out.mid Ho.out Ha.out hx2 hb2
  obtain ⟨Wm, hWm⟩ : ∃ Wm, Wm = ((((w2.setCell ⟨w.heap.size, 0, none⟩ (.slice BA2 bn2 bc2)).setCell ⟨w.heap.size, 1, none⟩ (.slice LA2 ln2 lc2)).setCell ⟨w.heap.size, 2, none⟩ (.int .i64 R'.armed)).setCell ⟨w.heap.size, 3, none⟩ (.bool R'.off)) := ⟨_, rfl⟩
  rw [← hWm] at hm3
  obtain ⟨y0, y1, y2, y3, g0, g1, g2, g3⟩ := ((Aft.bx Ha.out HB.out).below hb2).c4
  have HWm := Lib.hid hWm
  have Hm3 := Lib.hid hm3
  clear hWm hm3 hx2 hb2 q0 q1 q2 q3 f0 f1 f2 f3 a0 a1 a2 a3
  go_upto_region 19 with (fail)
  rw [← HWm.out]
  clear y0 y1 y2 y3 g0 g1 g2 g3
  obtain ⟨u0, u1, u2, u3, -⟩ := Hm3.out.x0.c4
  have F0 := Hm3.out.x2.fr (k := 4) rfl
  have sof : ∀ W, Fr Wm (w.heap.size + 2) 4 W → (Fr Wm (w.heap.size + 2) 4 W ∧ W.cell? ⟨w.heap.size, 0, none⟩ = some (.slice BA2 bn2 bc2) ∧ W.cell? ⟨w.heap.size, 1, none⟩ = some (.slice LA2 ln2 lc2) ∧ W.cell? ⟨w.heap.size, 2, none⟩ = some (.int .i64 R'.armed) ∧ W.cell? ⟨w.heap.size, 3, none⟩ = some (.bool R'.off) ∧ W.cell? ⟨w.heap.size + 2, 0, none⟩ = some (peek W (w.heap.size + 2) 0) ∧ W.cell? ⟨w.heap.size + 2, 1, none⟩ = some (peek W (w.heap.size + 2) 1) ∧ W.cell? ⟨w.heap.size + 2, 2, none⟩ = some (peek W (w.heap.size + 2) 2) ∧ W.cell? ⟨w.heap.size + 2, 3, none⟩ = some (peek W (w.heap.size + 2) 3) ∧ W.frozen? ⟨w.heap.size + 2, 0, none⟩ = false ∧ W.frozen? ⟨w.heap.size + 2, 1, none⟩ = false ∧ W.frozen? ⟨w.heap.size + 2, 2, none⟩ = false ∧ W.frozen? ⟨w.heap.size + 2, 3, none⟩ = false) := fun W F => ⟨F, F.cell (by omega) u0, F.cell (by omega) u1, F.cell (by omega) u2, F.cell (by omega) u3, F.pk (by omega), F.pk (by omega), F.pk (by omega), F.pk (by omega), F.fz _, F.fz _, F.fz _, F.fz _⟩
  have hnum : ∀ W, Fr Wm (w.heap.size + 2) 4 W → Calls Tryd.prog 16 #[.nilIface] W fun e w' => e = .returned (.int .i64 0) ∧ Below W.heap.size W w' := fun W F => numD 0 W (F.cell (by omega) (Hm3.out.err Hg.out H0.out))
  have Hnum := Lib.hid hnum
  have s0 := sof _ F0
  clear hnum u0 u1 u2 u3
  go_split_ands
  go_region_held3 (fun W => (Fr Wm (w.heap.size + 2) 4 W ∧ W.cell? ⟨w.heap.size, 0, none⟩ = some (.slice BA2 bn2 bc2) ∧ W.cell? ⟨w.heap.size, 1, none⟩ = some (.slice LA2 ln2 lc2) ∧ W.cell? ⟨w.heap.size, 2, none⟩ = some (.int .i64 R'.armed) ∧ W.cell? ⟨w.heap.size, 3, none⟩ = some (.bool R'.off) ∧ W.cell? ⟨w.heap.size + 2, 0, none⟩ = some (peek W (w.heap.size + 2) 0) ∧ W.cell? ⟨w.heap.size + 2, 1, none⟩ = some (peek W (w.heap.size + 2) 1) ∧ W.cell? ⟨w.heap.size + 2, 2, none⟩ = some (peek W (w.heap.size + 2) 2) ∧ W.cell? ⟨w.heap.size + 2, 3, none⟩ = some (peek W (w.heap.size + 2) 3) ∧ W.frozen? ⟨w.heap.size + 2, 0, none⟩ = false ∧ W.frozen? ⟨w.heap.size + 2, 1, none⟩ = false ∧ W.frozen? ⟨w.heap.size + 2, 2, none⟩ = false ∧ W.frozen? ⟨w.heap.size + 2, 3, none⟩ = false)) ((refine sof _ ?_; first | exact F0.drew | (go_split_ands; exact Fr.below (by assumption) (by assumption)) | (go_split_ands; exact Fr.set (Fr.set (Fr.set (Fr.set (by assumption) _ _) _ _) _ _) _ _))) (first
    | (go_at_call 16; refine (Hnum.out _ (by go_split_ands; assumption)).mono ?_; rintro e w4 ⟨rfl, hb4⟩; have F4 : Fr Wm (w.heap.size + 2) 4 w4 := Fr.below (by go_split_ands; assumption) hb4))
  all_goals
    have q0 : w4.cell? ⟨w.heap.size + 2, 0, none⟩ = some (peek w4 (w.heap.size + 2) 0) := F4.pk (by omega)
    have q1 : w4.cell? ⟨w.heap.size + 2, 1, none⟩ = some (peek w4 (w.heap.size + 2) 1) := F4.pk (by omega)
    have q2 : w4.cell? ⟨w.heap.size + 2, 2, none⟩ = some (peek w4 (w.heap.size + 2) 2) := F4.pk (by omega)
    have q3 : w4.cell? ⟨w.heap.size + 2, 3, none⟩ = some (peek w4 (w.heap.size + 2) 3) := F4.pk (by omega)
    have FF := Fr.set (Fr.set (Fr.set (Fr.set F4 0 (.slice BA2 bn2 bc2)) 1 (.slice LA2 ln2 lc2)) 2 (.int .i64 R'.armed)) 3 (.bool R'.off)
    go_wp2_with fail
    refine bodyPost_ret (by simp [results, Tryd.results8, go_sem, q0, q1, q2, q3]; rfl) rfl ?_
    exact Hm3.out.end_ FF

set_option maxHeartbeats 3200000 in
theorem stepRead (w : World) (hd : DX w L g D z) (ho : ∀ b, ok b → ¬ L b) (hx : RS w ok R BA bn bc LA ln lc ls) (hrel : Rel m D R) (hm : m ≤ 1000) (hq : D.q.length ≤ 1000) (hz : z ≤ 4194304)
    (hy1 : Rd w ok 1 y.A y.n (bs y.d) ∧ y.n ≤ y.m ∧ y.m ≤ maxLen) (hy2 : Rd w ok 1 y.K y.kn (ii y.k) ∧ (∀ z ∈ y.k, I64 z) ∧ y.kn * 8 ≤ reachBytes) (hy : I64 y.a ∧ I64 y.b ∧ I64 y.c) (hg : ErrT w) (h0 : ¬ L 0) (hK : y.a % 8 = 5) :
    Calls Tryd.prog 8 #[.pointer (some ⟨g, 0, none⟩), rval R BA bn bc LA ln lc, .agg #[.int .i64 y.a, .int .i64 y.b, .int .i64 y.c, .slice y.A y.n y.m, .slice y.K y.kn y.km]] w (StepPost3 w L ok g (D.act y).1 (R.act y).1 z) := by
  have eD : D.act y = (D, 0) := by unfold Dk.act kindL; rw [if_neg (by omega), if_pos (by omega)]
  have eR : R.act y = (R, 0) := by unfold R3.act kindL; rw [if_neg (by omega), if_pos (by omega)]
  rw [eD, eR]
  obtain ⟨W0, hW0⟩ : ∃ W0, W0 = (((w.alloc (.cells #[.slice BA bn bc, .slice LA ln lc, .int .i64 R.armed, .bool R.off] 31)).alloc (.cells #[.int .i64 y.a, .int .i64 y.b, .int .i64 y.c, .slice y.A y.n y.m, .slice y.K y.kn y.km] 38)).alloc (.cells #[.slice none 0 0, .slice none 0 0, .int .i64 0, .bool false] 31)) := ⟨_, rfl⟩
  have hB := base3 w L #[.slice BA bn bc, .slice LA ln lc, .int .i64 R.armed, .bool R.off] #[.int .i64 y.a, .int .i64 y.b, .int .i64 y.c, .slice y.A y.n y.m, .slice y.K y.kn y.km] hd.lt
  rw [← hW0] at hB
  have hok := hd.ok
  have hbl : bn = z := by rw [← hx.blen]; exact hrel.blen hok
  have hll : ln ≤ 1000 := by rw [← hx.qlen, hrel.qlen]; exact hq
  have hmx : maxLen = 9223372036854775807 := by decide
  have hcD := read_any y.b y.c W0 (hd.below hB.be) hy.2.1 hy.2.2
  unfold ReadPost at hcD
  have ek := hrel.read hok y.b y.c
  have hcR := fun w1 (h1 : Below W0.heap.size W0 w1) => read3_any y.b y.c hy.2.1 hy.2.2 w1 (hB.rows (Kept.of_new h1) ho hx) (by rw [hbl]; exact hrel.fit hok) (by omega) (by omega)
  unfold Read3Post at hcR
  rw [ek] at hcR
  obtain ⟨S, hS⟩ : ∃ S, S = (D.read y.b y.c).1 := ⟨_, rfl⟩
  obtain ⟨k, hk⟩ : ∃ k, k = (D.read y.b y.c).2 := ⟨_, rfl⟩
  rw [← hS, ← hk] at hcD hcR
  have hmid := fun w2 (h2 : Below W0.heap.size W0 w2) => hB.mid0 hd ho hx h2
  have hsz := hB.sz
  have Hmid := Lib.hid hmid
  have HcD := Lib.hid hcD
  clear hS
  dsimp only
  have HB := Lib.hid hB
  have HW0 := Lib.hid hW0
  have HcR := Lib.hid hcR
  have Hg := Lib.hid hg
  have H0 := Lib.hid h0
  have Ho := Lib.hid ho
  clear hB hW0 hcR hg h0 ho hd hx hrel eD eR hbl hy1 hy2 hy hok ek hk hcD hmid
  unfold rval at Hmid HcR ⊢
  obtain ⟨hK1, hK2⟩ := kind_is hK
  clear hK
  go_enter Tryd.func8, Tryd.ntmps8
  go_wp2_with fail
  rw [← HW0.out]
  refine HcD.out.mono ?_
  rintro e w1 ⟨A1, c1, rfl, hr1, hb1⟩
  obtain ⟨q0, q1, q2, q3, -⟩ := (HB.out.x0.below hb1).c4
  have x1 := HB.out.x1.below hb1
  have a0 : w1.cell? ⟨w.heap.size + 1, 1, none⟩ = some (.int .i64 y.b) := x1.c 1
  have a1 : w1.cell? ⟨w.heap.size + 1, 2, none⟩ = some (.int .i64 y.c) := x1.c 2
  have hc := HcR.out w1 hb1
  have Hr1 := Lib.hid hr1
  have Hb1 := Lib.hid hb1
  have Hc := Lib.hid hc
  clear hr1 hb1 x1 hc
  go_wp2_with fail
  refine Hc.out.mono ?_
  rintro e w2 ⟨A2, c2, rfl, hr2, hb2⟩
  have hs1 := Hb1.out.size
  have Hr2 := Lib.hid hr2
  have Hb2 := Lib.hid hb2
  have hm3 := Hmid.out w2 (Hb1.out.trans (hb2.mono Hb1.out.size))
  obtain ⟨Wm, hWm⟩ : ∃ Wm, Wm = w2 := ⟨_, rfl⟩
  subst hWm
  have Hm3 := Lib.hid hm3
  obtain ⟨u0, u1, u2, u3, -⟩ := Hm3.out.x0.c4
  have F0 := Hm3.out.x2.fr (k := 4) rfl
  have sof : ∀ W, Fr Wm (w.heap.size + 2) 4 W → (Fr Wm (w.heap.size + 2) 4 W ∧ W.cell? ⟨w.heap.size, 0, none⟩ = some (.slice BA bn bc) ∧ W.cell? ⟨w.heap.size, 1, none⟩ = some (.slice LA ln lc) ∧ W.cell? ⟨w.heap.size, 2, none⟩ = some (.int .i64 R.armed) ∧ W.cell? ⟨w.heap.size, 3, none⟩ = some (.bool R.off) ∧ W.cell? ⟨w.heap.size + 2, 0, none⟩ = some (peek W (w.heap.size + 2) 0) ∧ W.cell? ⟨w.heap.size + 2, 1, none⟩ = some (peek W (w.heap.size + 2) 1) ∧ W.cell? ⟨w.heap.size + 2, 2, none⟩ = some (peek W (w.heap.size + 2) 2) ∧ W.cell? ⟨w.heap.size + 2, 3, none⟩ = some (peek W (w.heap.size + 2) 3) ∧ W.frozen? ⟨w.heap.size + 2, 0, none⟩ = false ∧ W.frozen? ⟨w.heap.size + 2, 1, none⟩ = false ∧ W.frozen? ⟨w.heap.size + 2, 2, none⟩ = false ∧ W.frozen? ⟨w.heap.size + 2, 3, none⟩ = false ∧ (convert 28 9 (.slice A1 S.length c1)).run Tryd.prog W = .ok (.string ⟨S.toArray⟩) W ∧ (convert 28 9 (.slice A2 S.length c2)).run Tryd.prog W = .ok (.string ⟨S.toArray⟩) W) := fun W F => ⟨F, F.cell (by omega) u0, F.cell (by omega) u1, F.cell (by omega) u2, F.cell (by omega) u3, F.pk (by omega), F.pk (by omega), F.pk (by omega), F.pk (by omega), F.fz _, F.fz _, F.fz _, F.fz _, conv_bytes (P := Tryd.prog) (c := c1) 28 9 5 Tryd.underlying28 Tryd.underlying5 Tryd.underlying9 (F.rd (Hr1.out.below Hb2.out) (by omega)), conv_bytes (P := Tryd.prog) (c := c2) 28 9 5 Tryd.underlying28 Tryd.underlying5 Tryd.underlying9 (F.rd (Hr2.out) (by omega))⟩
  have hnum : ∀ W, Fr Wm (w.heap.size + 2) 4 W → Calls Tryd.prog 16 #[errD k] W fun e w' => e = .returned (.int .i64 k) ∧ Below W.heap.size W w' := fun W F => numD k W (F.cell (by omega) (Hm3.out.err Hg.out H0.out))
  have Hnum := Lib.hid hnum
  have s0 := sof _ F0
  clear hnum hm3 hr2 hb2 q0 q1 q2 q3 a0 a1 u0 u1 u2 u3
  go_split_ands
  go_upto_region 12 with (fail)
  go_region_held3 (fun W => (Fr Wm (w.heap.size + 2) 4 W ∧ W.cell? ⟨w.heap.size, 0, none⟩ = some (.slice BA bn bc) ∧ W.cell? ⟨w.heap.size, 1, none⟩ = some (.slice LA ln lc) ∧ W.cell? ⟨w.heap.size, 2, none⟩ = some (.int .i64 R.armed) ∧ W.cell? ⟨w.heap.size, 3, none⟩ = some (.bool R.off) ∧ W.cell? ⟨w.heap.size + 2, 0, none⟩ = some (peek W (w.heap.size + 2) 0) ∧ W.cell? ⟨w.heap.size + 2, 1, none⟩ = some (peek W (w.heap.size + 2) 1) ∧ W.cell? ⟨w.heap.size + 2, 2, none⟩ = some (peek W (w.heap.size + 2) 2) ∧ W.cell? ⟨w.heap.size + 2, 3, none⟩ = some (peek W (w.heap.size + 2) 3) ∧ W.frozen? ⟨w.heap.size + 2, 0, none⟩ = false ∧ W.frozen? ⟨w.heap.size + 2, 1, none⟩ = false ∧ W.frozen? ⟨w.heap.size + 2, 2, none⟩ = false ∧ W.frozen? ⟨w.heap.size + 2, 3, none⟩ = false ∧ (convert 28 9 (.slice A1 S.length c1)).run Tryd.prog W = .ok (.string ⟨S.toArray⟩) W ∧ (convert 28 9 (.slice A2 S.length c2)).run Tryd.prog W = .ok (.string ⟨S.toArray⟩) W)) ((refine sof _ ?_; first | exact F0.drew | (go_split_ands; exact Fr.below (by assumption) (by assumption)) | (go_split_ands; exact Fr.set (Fr.set (Fr.set (Fr.set (by assumption) _ _) _ _) _ _) _ _))) (first
    | (go_at_call 16; refine (Hnum.out _ (by go_split_ands; assumption)).mono ?_; rintro e w4 ⟨rfl, hb4⟩; have F4 : Fr Wm (w.heap.size + 2) 4 w4 := Fr.below (by go_split_ands; assumption) hb4))
  all_goals
    have q0 : w4.cell? ⟨w.heap.size + 2, 0, none⟩ = some (peek w4 (w.heap.size + 2) 0) := F4.pk (by omega)
    have q1 : w4.cell? ⟨w.heap.size + 2, 1, none⟩ = some (peek w4 (w.heap.size + 2) 1) := F4.pk (by omega)
    have q2 : w4.cell? ⟨w.heap.size + 2, 2, none⟩ = some (peek w4 (w.heap.size + 2) 2) := F4.pk (by omega)
    have q3 : w4.cell? ⟨w.heap.size + 2, 3, none⟩ = some (peek w4 (w.heap.size + 2) 3) := F4.pk (by omega)
    have FF := Fr.set (Fr.set (Fr.set (Fr.set F4 0 (.slice BA bn bc)) 1 (.slice LA ln lc)) 2 (.int .i64 R.armed)) 3 (.bool R.off)
    go_wp2_with fail
    refine bodyPost_ret (by simp [results, Tryd.results8, go_sem, q0, q1, q2, q3]; rfl) rfl ?_
    exact Hm3.out.end_ FF

/-- One deed. -/
theorem stepL_any (w : World) (v : Value) (hd : DX w L g D z) (ho : ∀ b, ok b → ¬ L b) (hx : RX w ok v R) (hrel : Rel m D R) (hm : m ≤ 1000) (hq : D.q.length ≤ 1000) (hz : z ≤ 4194304)
    (hy1 : Rd w ok 1 y.A y.n (bs y.d) ∧ y.n ≤ y.m ∧ y.m ≤ maxLen) (hy2 : Rd w ok 1 y.K y.kn (ii y.k) ∧ (∀ z ∈ y.k, I64 z) ∧ y.kn * 8 ≤ reachBytes) (hy : I64 y.a ∧ I64 y.b ∧ I64 y.c) (hg : ErrT w) (h0 : ¬ L 0) :
    Calls Tryd.prog 8 #[.pointer (some ⟨g, 0, none⟩), v, .agg #[.int .i64 y.a, .int .i64 y.b, .int .i64 y.c, .slice y.A y.n y.m, .slice y.K y.kn y.km]] w (StepPost3 w L ok g (D.act y).1 (R.act y).1 z) := by
  obtain ⟨BA, bn, bc, LA, ln, lc, ls, rfl, hx⟩ := hx
  have h8 : (y.a % 8 = 0 ∨ y.a % 8 = 1 ∨ y.a % 8 = 2) ∨ y.a % 8 = 3 ∨ y.a % 8 = 4 ∨ y.a % 8 = 5 ∨ y.a % 8 = 6 ∨ y.a % 8 = 7 := by omega
  rcases h8 with h | h | h | h | h | h
  · exact stepWrite w hd ho hx hrel hm hq hz hy1 hy2 hy hg h0 h
  · exact stepSync3 w hd ho hx hrel hm hq hz hy1 hy2 hy hg h0 h
  · exact stepSync4 w hd ho hx hrel hm hq hz hy1 hy2 hy hg h0 h
  · exact stepRead w hd ho hx hrel hm hq hz hy1 hy2 hy hg h0 h
  · exact stepArm w hd ho hx hrel hm hq hz hy1 hy2 hy hg h0 h
  · exact stepStart w hd ho hx hrel hm hq hz hy1 hy2 hy hg h0 h

end
end Go.Proofs.YtefhkhocbcnbcaaDoor
