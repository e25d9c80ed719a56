/- Walks: the entry of an index: entry.At, and the document's At. -/
import Derived.Test.YtefjejlpbfbpcaaDoorCompR
import Derived.Test.YtefjejlpbfbpcaaDoorEnts
namespace Go.Proofs.YtefjejlpbfbpcaaDoor
open Go.RowKit
set_option maxRecDepth 100000
set_option linter.unusedVariables false
set_option linter.unusedSimpArgs false
def zE : En := ⟨0, 0, 0, []⟩
/-- The entry of an index, or the error's number. -/
def atL (b t : Int) (l : List En) (ix : Int) : Int × En := if lmay b t l = false then (1, zE) else if lstA b l < ix ∨ ix < 1 then (8, zE) else if ix ≤ b then (22, zE) else (0, (l[(ix - b - 1).toNat]?).getD zE)
def AtPost (W : World) (er : Int → Value) (r : Int × En) (e : Ending) (w' : World) : Prop :=
  ∃ x : Er, e = .returned (.tuple #[ecA x, er r.1]) ∧ en x = r.2 ∧ Rd w' T 1 x.A x.n (bs x.d) ∧ x.n ≤ 1000000 ∧ Below W.heap.size W w'
def z0 : Er := ⟨0, 0, 0, none, 0, 0, []⟩
theorem ecA_z0 : ecA z0 = .agg #[.int .i64 0, .int .i64 0, .int .i64 0, .slice none 0 0] := rfl
set_option maxHeartbeats 1600000 in
theorem at_any (b t ix : Int) (A : Option Addr) (n c : Nat) (L : List Er) (w : World) (hr : Rd w T 4 A n (flat ecell L)) (hd : Dat w L) (hs : ∀ x ∈ L, x.n ≤ 1000000) (hw : Wel L) (hn : n ≤ 1000000) :
    Calls Tryd.prog 27 #[.agg #[.int .i64 b, .int .i64 t, .slice A n c], .int .i64 ix] w (AtPost w errC (atL b t (L.map en) ix)) := by
  have hr' := hr.lt (by omega)
  have hll := hr.flen ecell_len (by omega)
  obtain ⟨W0, hW0⟩ : ∃ W0, W0 = (w.alloc (.cells #[.int .i64 b, .int .i64 t, .slice A n c] 31)).alloc (.cells #[.int .i64 0, .int .i64 0, .int .i64 0, .slice none 0 0] 39) := ⟨_, rfl⟩
  have b0 : Bx W0 w.heap.size #[.int .i64 b, .int .i64 t, .slice A n c] := by subst hW0; exact (Bx.new _ _ _ rfl).alloc _
  have F0 : Fr W0 (w.heap.size + 1) 4 W0 := by subst hW0; exact Fr.new (by simp) rfl
  have r0 : Rd W0 (· < w.heap.size) 4 A n (flat ecell L) := by subst hW0; exact ((hr'.mono fun b hb => hb.2).alloc _).alloc _
  have hbe : Below w.heap.size w W0 := by subst hW0; exact ((Below.refl _ _).alloc (Nat.le_refl _) _).alloc (by simp) _
  have d0 : ∀ x ∈ L, Rd W0 (· < w.heap.size) 1 x.A x.n (bs x.d) := fun x hx => (((hd x hx).1.lt (by omega)).mono fun b hb => hb.2).below hbe
  have hz : W0.heap.size = w.heap.size + 2 := by subst hW0; simp
  have u0 : W0.cell? ⟨w.heap.size, 0, none⟩ = some (.int .i64 b) := b0.c 0
  have u1 : W0.cell? ⟨w.heap.size, 1, none⟩ = some (.int .i64 t) := b0.c 1
  have u2 : W0.cell? ⟨w.heap.size, 2, none⟩ = some (.slice A n c) := b0.c 2
  have hlt := last_any b t A n c L W0 r0 hn
  have hmm := fun W (h : Fr W0 (w.heap.size + 1) 4 W) => may_any b t A n c L W (h.rd r0 (by omega)) hw (by omega)
  obtain ⟨q, hq⟩ : ∃ q, lmay b t (L.map en) = q := ⟨_, rfl⟩
  obtain ⟨R, hR⟩ : ∃ R, atL b t (L.map en) ix = R := ⟨_, rfl⟩
  rw [hR]
  unfold atL at hR
  have hlast : q = true → lstA b (L.map en) = b + n ∧ -1 < b ∧ b ≤ 1099511627776 := fun h => by
    have h1 := lmay_last (hq.trans h)
    rw [List.length_map, hll] at h1
    have := (lmay_iff.1 (hq.trans h)).1
    exact ⟨h1, by omega, by omega⟩
  rw [hq] at hmm hR
  generalize lstA b (L.map en) = z at hlt hR hlast
  generalize lstB t (L.map en) = y at hlt
  have Hlt := Lib.hid hlt
  have Hmm := Lib.hid hmm
  have HW := Lib.hid hW0
  have U := Lib.hid (And.intro u0 (And.intro u1 u2))
  have HR := Lib.hid hR
  have R0 := Lib.hid r0
  have D0 := Lib.hid d0
  have Hs := Lib.hid hs
  have Hlast := Lib.hid hlast
  have Hz := Lib.hid hz
  clear hW0 b0 u0 u1 u2 hr hr' r0 d0 hlt hmm hw hq hR hll hs hd hlast hz
  go_enter Tryd.func27, Tryd.ntmps27
  go_wp2_with fail
  rw [← HW.out]
  obtain ⟨u0, u1, u2⟩ := U.out
  go_wp2_with fail
  refine Hlt.out.mono ?_
  rintro e w1 ⟨rfl, hb1⟩
  have F1 := F0.below hb1
  have j0 : w1.cell? ⟨w.heap.size, 0, none⟩ = some (.int .i64 b) := F1.cell (by omega) U.out.1
  have j1 : w1.cell? ⟨w.heap.size, 1, none⟩ = some (.int .i64 t) := F1.cell (by omega) U.out.2.1
  have j2 : w1.cell? ⟨w.heap.size, 2, none⟩ = some (.slice A n c) := F1.cell (by omega) U.out.2.2
  clear u0 u1 u2 hb1
  go_wp2_with fail
  refine (Hmm.out _ F1).mono ?_
  rintro e w2 ⟨rfl, hb2⟩
  have F2 := F1.below hb2
  clear j0 j1 j2 hb2
  have j0 : w2.cell? ⟨w.heap.size, 0, none⟩ = some (.int .i64 b) := F2.cell (by omega) U.out.1
  have j1 : w2.cell? ⟨w.heap.size, 1, none⟩ = some (.int .i64 t) := F2.cell (by omega) U.out.2.1
  have j2 : w2.cell? ⟨w.heap.size, 2, none⟩ = some (.slice A n c) := F2.cell (by omega) U.out.2.2
  have q0 : w2.cell? ⟨w.heap.size + 1, 0, none⟩ = some (peek w2 (w.heap.size + 1) 0) := F2.pk (by omega)
  have q1 : w2.cell? ⟨w.heap.size + 1, 1, none⟩ = some (peek w2 (w.heap.size + 1) 1) := F2.pk (by omega)
  have q2 : w2.cell? ⟨w.heap.size + 1, 2, none⟩ = some (peek w2 (w.heap.size + 1) 2) := F2.pk (by omega)
  have q3 : w2.cell? ⟨w.heap.size + 1, 3, none⟩ = some (peek w2 (w.heap.size + 1) 3) := F2.pk (by omega)
  have g0 : w2.frozen? ⟨w.heap.size + 1, 0, none⟩ = false := F2.fz _
  have g1 : w2.frozen? ⟨w.heap.size + 1, 1, none⟩ = false := F2.fz _
  have g2 : w2.frozen? ⟨w.heap.size + 1, 2, none⟩ = false := F2.fz _
  have g3 : w2.frozen? ⟨w.heap.size + 1, 3, none⟩ = false := F2.fz _
  have F2' := Lib.hid F2
  have FZ := Lib.hid (hbe.trans ((Fr.set (Fr.set (Fr.set (Fr.set F2 0 (.int .i64 0)) 1 (.int .i64 0)) 2 (.int .i64 0)) 3 (.slice none 0 0)).to_below (B := w.heap.size) (by omega)))
  cases q
  · go_wp2_with fail
    refine bodyPost_ret (by simp [results, Tryd.results27, go_sem, q0, q1, q2, q3]; rfl) rfl ?_
    have := HR.out
    rw [if_pos (by trivial)] at this
    subst this
    exact ⟨z0, rfl, rfl, Rd.none_, by simp [z0], FZ.out⟩
  obtain ⟨hz1, hz2, hz3⟩ := Hlast.out (by trivial)
  replace HR := Lib.hid (show _ from (if_neg (by decide : ¬ (true = false))).symm.trans HR.out)
  subst hz1
  by_cases h1 : b + (n : Int) < ix
  · go_wp2_with fail
    refine bodyPost_ret (by simp [results, Tryd.results27, go_sem, q0, q1, q2, q3]; rfl) rfl ?_
    have := HR.out
    rw [if_pos (.inl h1)] at this
    subst this
    exact ⟨z0, rfl, rfl, Rd.none_, by simp [z0], FZ.out⟩
  have h1d : decide (b + (n : Int) < ix) = false := decide_eq_false h1
  by_cases h2 : ix < 1
  · go_wp2_with fail
    refine bodyPost_ret (by simp [results, Tryd.results27, go_sem, q0, q1, q2, q3]; rfl) rfl ?_
    have := HR.out
    rw [if_pos (.inr h2)] at this
    subst this
    exact ⟨z0, rfl, rfl, Rd.none_, by simp [z0], FZ.out⟩
  have h2d : decide (ix < 1) = false := decide_eq_false h2
  replace HR := Lib.hid (show _ from (if_neg (by omega : ¬ (b + (n : Int) < ix ∨ ix < 1))).symm.trans HR.out)
  by_cases h3 : ix ≤ b
  · go_wp2_with fail
    refine bodyPost_ret (by simp [results, Tryd.results27, go_sem, q0, q1, q2, q3]; rfl) rfl ?_
    have := HR.out
    rw [if_pos h3] at this
    subst this
    exact ⟨z0, rfl, rfl, Rd.none_, by simp [z0], FZ.out⟩
  have h3d : decide (ix ≤ b) = false := decide_eq_false h3
  replace HR := Lib.hid (show _ from (if_neg h3).symm.trans HR.out)
  obtain ⟨m, hm1⟩ : ∃ m : Nat, ix - b - 1 = (m : Int) := ⟨(ix - b - 1).toNat, by omega⟩
  have hmn : m < n := by omega
  have w1' : IntKind.i64.wrap (ix - b) = ix - b := by rw [IntKind.wrap_i64]; omega
  have w2' : IntKind.i64.wrap (ix - b - 1) = (m : Int) := by rw [IntKind.wrap_i64]; omega
  obtain ⟨bk, o, x, rfl, hbk, hbl, hx, c0, c1, c2, c3⟩ := er_cells (F2.rd R0.out (by omega)) hmn
  have hRR : R = (0, en x) := by
    have := HR.out
    rw [show (ix - b - 1).toNat = m by omega, List.getElem?_map, hx] at this
    exact this.symm
  have hmI : (m : Int) < n := by omega
  have hm0 : (0 : Int) ≤ m := by omega
  have hxm := List.mem_of_getElem? hx
  have how := own1_any x w2 ((F2.rd (D0.out x hxm) (by omega)).any) (Hs.out x hxm)
  have How := Lib.hid how
  have HRR := Lib.hid hRR
  have Hxn := Lib.hid (Hs.out x hxm)
  clear hx hm1 hRR hxm how F2
  go_wp2_with fail
  refine How.out.mono ?_
  rintro e w4 ⟨A4, m4, rfl, r4, nm4, mm4, hb4⟩
  have F4 := F2'.out.below hb4
  clear q0 q1 q2 q3 g0 g1 g2 g3 j0 j1 j2 c0 c1 c2 c3
  have q0 : w4.cell? ⟨w.heap.size + 1, 0, none⟩ = some (peek w4 (w.heap.size + 1) 0) := F4.pk (by omega)
  have q1 : w4.cell? ⟨w.heap.size + 1, 1, none⟩ = some (peek w4 (w.heap.size + 1) 1) := F4.pk (by omega)
  have q2 : w4.cell? ⟨w.heap.size + 1, 2, none⟩ = some (peek w4 (w.heap.size + 1) 2) := F4.pk (by omega)
  have q3 : w4.cell? ⟨w.heap.size + 1, 3, none⟩ = some (peek w4 (w.heap.size + 1) 3) := F4.pk (by omega)
  have g0 : w4.frozen? ⟨w.heap.size + 1, 0, none⟩ = false := F4.fz _
  have g1 : w4.frozen? ⟨w.heap.size + 1, 1, none⟩ = false := F4.fz _
  have g2 : w4.frozen? ⟨w.heap.size + 1, 2, none⟩ = false := F4.fz _
  have g3 : w4.frozen? ⟨w.heap.size + 1, 3, none⟩ = false := F4.fz _
  have R4 := Lib.hid r4
  have F4' := Lib.hid F4
  have hg4 := F2'.out.gr.size
  have hle := Hz.out
  clear r4 hb4 F4
  go_wp2_with fail
  refine bodyPost_ret (by simp [results, Tryd.results27, go_sem, q0, q1, q2, q3]; rfl) rfl ?_
  have hne : ¬ w2.heap.size ≤ w.heap.size + 1 := by omega
  have hF := Fr.set (Fr.set (Fr.set (Fr.set F4'.out 0 (.int .i64 x.a)) 1 (.int .i64 x.b)) 2 (.int .i64 x.c)) 3 (.slice A4 x.n m4)
  refine ⟨⟨x.a, x.b, x.c, A4, x.n, m4, x.d⟩, by rw [HRR.out]; rfl, by rw [HRR.out]; rfl, ?_, Hxn.out, hbe.trans (hF.to_below (B := w.heap.size) (by omega))⟩
  exact ((((R4.out.setCell (p := ⟨w.heap.size + 1, 0, none⟩) hne _).setCell (p := ⟨w.heap.size + 1, 1, none⟩) hne _).setCell (p := ⟨w.heap.size + 1, 2, none⟩) hne _).setCell (p := ⟨w.heap.size + 1, 3, none⟩) hne _).any
set_option maxHeartbeats 1600000 in
theorem atR_any (b t ix : Int) (A : Option Addr) (n c : Nat) (L : List Er) (w : World) (hr : Rd w T 4 A n (flat ecell L)) (hd : Dat w L) (hs : ∀ x ∈ L, x.n ≤ 1000000) (hw : Wel L) (hn : n ≤ 1000000) :
    Calls Tryd.prog 28 #[.agg #[.int .i64 b, .int .i64 t, .slice A n c], .int .i64 ix] w (AtPost w (Value.int .i64) (atL b t (L.map en) ix)) := by
  have hr' := hr.lt (by omega)
  have hll := hr.flen ecell_len (by omega)
  obtain ⟨W0, hW0⟩ : ∃ W0, W0 = (w.alloc (.cells #[.int .i64 b, .int .i64 t, .slice A n c] 24)).alloc (.cells #[.int .i64 0, .int .i64 0, .int .i64 0, .slice none 0 0] 47) := ⟨_, rfl⟩
  have b0 : Bx W0 w.heap.size #[.int .i64 b, .int .i64 t, .slice A n c] := by subst hW0; exact (Bx.new _ _ _ rfl).alloc _
  have F0 : Fr W0 (w.heap.size + 1) 4 W0 := by subst hW0; exact Fr.new (by simp) rfl
  have r0 : Rd W0 (· < w.heap.size) 4 A n (flat ecell L) := by subst hW0; exact ((hr'.mono fun b hb => hb.2).alloc _).alloc _
  have hbe : Below w.heap.size w W0 := by subst hW0; exact ((Below.refl _ _).alloc (Nat.le_refl _) _).alloc (by simp) _
  have d0 : ∀ x ∈ L, Rd W0 (· < w.heap.size) 1 x.A x.n (bs x.d) := fun x hx => (((hd x hx).1.lt (by omega)).mono fun b hb => hb.2).below hbe
  have hz : W0.heap.size = w.heap.size + 2 := by subst hW0; simp
  have u0 : W0.cell? ⟨w.heap.size, 0, none⟩ = some (.int .i64 b) := b0.c 0
  have u1 : W0.cell? ⟨w.heap.size, 1, none⟩ = some (.int .i64 t) := b0.c 1
  have u2 : W0.cell? ⟨w.heap.size, 2, none⟩ = some (.slice A n c) := b0.c 2
  have hmm := mayR_any b t A n c L W0 r0 hw hn
  have hlt := fun W (h : Fr W0 (w.heap.size + 1) 4 W) => lastR_any b t A n c L W (h.rd r0 (by omega)) hw (by omega)
  obtain ⟨q, hq⟩ : ∃ q, lmay b t (L.map en) = q := ⟨_, rfl⟩
  obtain ⟨R, hR⟩ : ∃ R, atL b t (L.map en) ix = R := ⟨_, rfl⟩
  rw [hR]
  unfold atL at hR
  have hlast : q = true → lstA b (L.map en) = b + n ∧ -1 < b ∧ b ≤ 1099511627776 := fun h => by
    have h1 := lmay_last (hq.trans h)
    rw [List.length_map, hll] at h1
    have := (lmay_iff.1 (hq.trans h)).1
    exact ⟨h1, by omega, by omega⟩
  rw [hq] at hmm hR
  simp only [hq] at hlt
  generalize lstA b (L.map en) = z at hlt hR hlast
  generalize lstB t (L.map en) = y at hlt
  have Hlt := Lib.hid hlt
  have Hmm := Lib.hid hmm
  have HW := Lib.hid hW0
  have U := Lib.hid (And.intro u0 (And.intro u1 u2))
  have HR := Lib.hid hR
  have R0 := Lib.hid r0
  have D0 := Lib.hid d0
  have Hs := Lib.hid hs
  have Hlast := Lib.hid hlast
  have Hz := Lib.hid hz
  clear hW0 b0 u0 u1 u2 hr hr' r0 d0 hlt hmm hw hq hR hll hs hd hlast hz
  go_enter Tryd.func28, Tryd.ntmps28
  go_wp2_with fail
  rw [← HW.out]
  obtain ⟨u0, u1, u2⟩ := U.out
  go_wp2_with fail
  refine Hmm.out.mono ?_
  rintro e w1 ⟨rfl, hb1⟩
  have F1 := F0.below hb1
  clear u0 u1 u2 hb1
  have j0 : w1.cell? ⟨w.heap.size, 0, none⟩ = some (.int .i64 b) := F1.cell (by omega) U.out.1
  have j1 : w1.cell? ⟨w.heap.size, 1, none⟩ = some (.int .i64 t) := F1.cell (by omega) U.out.2.1
  have j2 : w1.cell? ⟨w.heap.size, 2, none⟩ = some (.slice A n c) := F1.cell (by omega) U.out.2.2
  have q0 : w1.cell? ⟨w.heap.size + 1, 0, none⟩ = some (peek w1 (w.heap.size + 1) 0) := F1.pk (by omega)
  have q1 : w1.cell? ⟨w.heap.size + 1, 1, none⟩ = some (peek w1 (w.heap.size + 1) 1) := F1.pk (by omega)
  have q2 : w1.cell? ⟨w.heap.size + 1, 2, none⟩ = some (peek w1 (w.heap.size + 1) 2) := F1.pk (by omega)
  have q3 : w1.cell? ⟨w.heap.size + 1, 3, none⟩ = some (peek w1 (w.heap.size + 1) 3) := F1.pk (by omega)
  have g0 : w1.frozen? ⟨w.heap.size + 1, 0, none⟩ = false := F1.fz _
  have g1 : w1.frozen? ⟨w.heap.size + 1, 1, none⟩ = false := F1.fz _
  have g2 : w1.frozen? ⟨w.heap.size + 1, 2, none⟩ = false := F1.fz _
  have g3 : w1.frozen? ⟨w.heap.size + 1, 3, none⟩ = false := F1.fz _
  have FZ := Lib.hid (hbe.trans ((Fr.set (Fr.set (Fr.set (Fr.set F1 0 (.int .i64 0)) 1 (.int .i64 0)) 2 (.int .i64 0)) 3 (.slice none 0 0)).to_below (B := w.heap.size) (by omega)))
  cases q
  · go_wp2_with fail
    refine bodyPost_ret (by simp [results, Tryd.results28, go_sem, q0, q1, q2, q3]; rfl) rfl ?_
    have := HR.out
    rw [if_pos (by trivial)] at this
    subst this
    exact ⟨z0, rfl, rfl, Rd.none_, by simp [z0], FZ.out⟩
  clear FZ
  go_wp2_with fail
  refine (Hlt.out _ F1).mono ?_
  rintro e w2 ⟨rfl, hb2⟩
  have F2 := F1.below hb2
  clear j0 j1 j2 hb2 q0 q1 q2 q3 g0 g1 g2 g3
  have j0 : w2.cell? ⟨w.heap.size, 0, none⟩ = some (.int .i64 b) := F2.cell (by omega) U.out.1
  have j1 : w2.cell? ⟨w.heap.size, 1, none⟩ = some (.int .i64 t) := F2.cell (by omega) U.out.2.1
  have j2 : w2.cell? ⟨w.heap.size, 2, none⟩ = some (.slice A n c) := F2.cell (by omega) U.out.2.2
  have q0 : w2.cell? ⟨w.heap.size + 1, 0, none⟩ = some (peek w2 (w.heap.size + 1) 0) := F2.pk (by omega)
  have q1 : w2.cell? ⟨w.heap.size + 1, 1, none⟩ = some (peek w2 (w.heap.size + 1) 1) := F2.pk (by omega)
  have q2 : w2.cell? ⟨w.heap.size + 1, 2, none⟩ = some (peek w2 (w.heap.size + 1) 2) := F2.pk (by omega)
  have q3 : w2.cell? ⟨w.heap.size + 1, 3, none⟩ = some (peek w2 (w.heap.size + 1) 3) := F2.pk (by omega)
  have g0 : w2.frozen? ⟨w.heap.size + 1, 0, none⟩ = false := F2.fz _
  have g1 : w2.frozen? ⟨w.heap.size + 1, 1, none⟩ = false := F2.fz _
  have g2 : w2.frozen? ⟨w.heap.size + 1, 2, none⟩ = false := F2.fz _
  have g3 : w2.frozen? ⟨w.heap.size + 1, 3, none⟩ = false := F2.fz _
  have F2' := Lib.hid F2
  have FZ := Lib.hid (hbe.trans ((Fr.set (Fr.set (Fr.set (Fr.set F2 0 (.int .i64 0)) 1 (.int .i64 0)) 2 (.int .i64 0)) 3 (.slice none 0 0)).to_below (B := w.heap.size) (by omega)))
  obtain ⟨hz1, hz2, hz3⟩ := Hlast.out (by trivial)
  replace HR := Lib.hid (show _ from (if_neg (by decide : ¬ (true = false))).symm.trans HR.out)
  subst hz1
  by_cases h1 : b + (n : Int) < ix
  · go_wp2_with fail
    refine bodyPost_ret (by simp [results, Tryd.results28, go_sem, q0, q1, q2, q3]; rfl) rfl ?_
    have := HR.out
    rw [if_pos (.inl h1)] at this
    subst this
    exact ⟨z0, rfl, rfl, Rd.none_, by simp [z0], FZ.out⟩
  have h1d : decide (b + (n : Int) < ix) = false := decide_eq_false h1
  by_cases h2 : ix < 1
  · go_wp2_with fail
    refine bodyPost_ret (by simp [results, Tryd.results28, go_sem, q0, q1, q2, q3]; rfl) rfl ?_
    have := HR.out
    rw [if_pos (.inr h2)] at this
    subst this
    exact ⟨z0, rfl, rfl, Rd.none_, by simp [z0], FZ.out⟩
  have h2d : decide (ix < 1) = false := decide_eq_false h2
  replace HR := Lib.hid (show _ from (if_neg (by omega : ¬ (b + (n : Int) < ix ∨ ix < 1))).symm.trans HR.out)
  by_cases h3 : ix ≤ b
  · go_wp2_with fail
    refine bodyPost_ret (by simp [results, Tryd.results28, go_sem, q0, q1, q2, q3]; rfl) rfl ?_
    have := HR.out
    rw [if_pos h3] at this
    subst this
    exact ⟨z0, rfl, rfl, Rd.none_, by simp [z0], FZ.out⟩
  have h3d : decide (ix ≤ b) = false := decide_eq_false h3
  replace HR := Lib.hid (show _ from (if_neg h3).symm.trans HR.out)
  obtain ⟨m, hm1⟩ : ∃ m : Nat, ix - b - 1 = (m : Int) := ⟨(ix - b - 1).toNat, by omega⟩
  have hmn : m < n := by omega
  have w1' : IntKind.i64.wrap (ix - b) = ix - b := by rw [IntKind.wrap_i64]; omega
  have w2' : IntKind.i64.wrap (ix - b - 1) = (m : Int) := by rw [IntKind.wrap_i64]; omega
  obtain ⟨bk, o, x, rfl, hbk, hbl, hx, c0, c1, c2, c3⟩ := er_cells (F2.rd R0.out (by omega)) hmn
  have hRR : R = (0, en x) := by
    have := HR.out
    rw [show (ix - b - 1).toNat = m by omega, List.getElem?_map, hx] at this
    exact this.symm
  have hmI : (m : Int) < n := by omega
  have hm0 : (0 : Int) ≤ m := by omega
  have hxm := List.mem_of_getElem? hx
  have HRR := Lib.hid hRR
  have Hxn := Lib.hid (Hs.out x hxm)
  have r2 := F2.rd (D0.out x hxm) (by omega)
  have R2 := Lib.hid r2
  clear hx hm1 hRR hxm F2 r2
  go_wp2_with fail
  refine bodyPost_ret (by simp [results, Tryd.results28, go_sem, q0, q1, q2, q3]; rfl) rfl ?_
  have hne : ¬ w.heap.size + 1 < w.heap.size := by omega
  have hF := Fr.set (Fr.set (Fr.set (Fr.set F2'.out 0 (.int .i64 x.a)) 1 (.int .i64 x.b)) 2 (.int .i64 x.c)) 3 (.slice x.A x.n x.m)
  refine ⟨x, by rw [HRR.out]; rfl, by rw [HRR.out], ?_, Hxn.out, hbe.trans (hF.to_below (B := w.heap.size) (by omega))⟩
  exact ((((R2.out.setCell (p := ⟨w.heap.size + 1, 0, none⟩) hne _).setCell (p := ⟨w.heap.size + 1, 1, none⟩) hne _).setCell (p := ⟨w.heap.size + 1, 2, none⟩) hne _).setCell (p := ⟨w.heap.size + 1, 3, none⟩) hne _).any
end Go.Proofs.YtefjejlpbfbpcaaDoor
