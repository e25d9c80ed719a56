/- Walk of entry.Merge where it refuses -/
import Derived.Test.YtmhaahcbmdhinaaGreatDoorZM28
import Derived.Test.YtmhaahcbmdhinaaGreatDoorZM16
import Derived.Test.YtmhaahcbmdhinaaGreatDoorZM25
import Derived.Test.YtmhaahcbmdhinaaGreatDoorZM12
import Derived.Test.YtmhaahcbmdhinaaGreatDoorZM15
namespace Go.Proofs.YtmhaahcbmdhinaaGreatDoor
open Go.RowKit
set_option maxRecDepth 100000
set_option linter.unusedVariables false
set_option linter.unusedSimpArgs false
attribute [local go_sem ↓] Go.wp_at_zero Go.wp_at_succ
set_option maxHeartbeats 8000000 in
theorem merge_noW (b t ix tm : Int) (A : Option Addr) (n c : Nat) (L : List Er) (M : Option Addr) (nm cm : Nat) (more : List Er) (w : World) (hr : Rd w T 4 A n (flat ecell L)) (hd : Dat w L) (hw : Wel L) (hs : ∀ x ∈ L, x.n ≤ 1000000) (hm : lmay b t (L.map en) = true) (hn : (n : Int) ≤ 4096)
    (gr : Rd w T 4 M nm (flat ecell more)) (gd : Dat w more) (gw : Wel more) (gs : ∀ x ∈ more, x.n ≤ 1000000) (hnm : nm ≤ 1000000) (hno : ix < 0 ∨ rgt ix tm 0 (more.map en) = false ∨ lstA b (L.map en) < ix ∨ ((termL b t (L.map en) ix).1 = 0 ∧ b < ix ∧ (termL b t (L.map en) ix).2 ≠ tm)) :
    Calls Tryz.prog 127 #[.agg #[.int .i64 b, .int .i64 t, .slice A n c], .int .i64 ix, .int .i64 tm, .slice M nm cm] w (MergeBackW w b t (L.map en)) := by
  have hr' := hr.lt (by omega)
  obtain ⟨W0, hW0⟩ : ∃ W0, W0 = (w.alloc (.cells #[.int .i64 b, .int .i64 t, .slice A n c] 38)).alloc (.cells #[.int .i64 0, .int .i64 0, .slice none 0 0] 38) := ⟨_, rfl⟩
  have b0 : Bx W0 w.heap.size #[.int .i64 b, .int .i64 t, .slice A n c] := by subst hW0; exact (Bx.new _ _ _ rfl).alloc _
  have F0 : Fr W0 (w.heap.size + 1) 3 W0 := by subst hW0; exact Fr.new (by simp) rfl
  have r0 : Rd W0 (· < w.heap.size) 4 A n (flat ecell L) := by subst hW0; exact ((hr'.mono fun b hb => hb.2).alloc _).alloc _
  have e0 : Rd W0 (· < w.heap.size) 4 M nm (flat ecell more) := by subst hW0; exact (((gr.lt (by omega)).mono fun b hb => hb.2).alloc _).alloc _
  have d0 : ∀ x ∈ L, Rd W0 (· < w.heap.size) 1 x.A x.n (bs x.d) ∧ x.n ≤ x.m ∧ x.m ≤ maxLen := by
    subst hW0
    exact fun x hx => ⟨(((((hd x hx).1.lt (by omega)).mono fun b hb => hb.2).alloc _).alloc _), (hd x hx).2⟩
  have f0 : ∀ x ∈ more, Rd W0 (· < w.heap.size) 1 x.A x.n (bs x.d) ∧ x.n ≤ x.m ∧ x.m ≤ maxLen := by
    subst hW0
    exact fun x hx => ⟨(((((gd x hx).1.lt (by omega)).mono fun b hb => hb.2).alloc _).alloc _), (gd x hx).2⟩
  have hbe : Below w.heap.size w W0 := by subst hW0; exact ((Below.refl _ _).alloc (Nat.le_refl _) _).alloc (by simp) _
  have hz : W0.heap.size = w.heap.size + 2 := by subst hW0; simp
  have u0 : W0.cell? ⟨w.heap.size, 0, none⟩ = some (.int .i64 b) := b0.c 0
  have u1 : W0.cell? ⟨w.heap.size, 1, none⟩ = some (.int .i64 t) := b0.c 1
  have u2 : W0.cell? ⟨w.heap.size, 2, none⟩ = some (.slice A n c) := b0.c 2
  have sof : ∀ W, Fr W0 (w.heap.size + 1) 3 W → (Fr W0 (w.heap.size + 1) 3 W ∧ W.cell? ⟨w.heap.size, 0, none⟩ = some (.int .i64 b) ∧ W.cell? ⟨w.heap.size, 1, none⟩ = some (.int .i64 t) ∧ W.cell? ⟨w.heap.size, 2, none⟩ = some (.slice A n c)) :=
    fun W F2 => ⟨F2, F2.cell (by omega) u0, F2.cell (by omega) u1, F2.cell (by omega) u2⟩
  have hmm := fun W (h : Fr W0 (w.heap.size + 1) 3 W) => may_any b t A n c L W (h.rd r0 (by omega)) hw (by omega)
  have hlt := fun W (h : Fr W0 (w.heap.size + 1) 3 W) => last_any b t A n c L W (h.rd r0 (by omega)) (by omega)
  have htm := fun W (h : Fr W0 (w.heap.size + 1) 3 W) => term_any b t ix A n c L W (h.rd r0 (by omega)) hm (by omega)
  have hrg := fun W (h : Fr W0 (w.heap.size + 1) 3 W) => right_any ix tm M nm cm more W (h.rd e0 (by omega)) gw hnm
  have how : ∀ W, Fr W0 (w.heap.size + 1) 3 W → Calls Tryz.prog 117 #[.slice A n c] W (fun e w' => ∃ A' c' L', e = .returned (.slice A' n c') ∧ Ro w' W.heap.size A' n c' L' ∧ Same L L' ∧ Below W.heap.size W w' ∧ W0.heap.size ≤ W.heap.size) := fun W h => (owns_any A n c L W (h.rd r0 (by omega)) (fun x hx => ⟨(h.rd (d0 x hx).1 (by omega)).any, (d0 x hx).2⟩) hs (by omega)).mono fun e w' ⟨A', c', L', h1, h2, h3, h4⟩ => ⟨A', c', L', h1, h2, h3, h4, h.gr.size⟩
  have hmr : ∀ W, Fr W0 (w.heap.size + 1) 3 W → Rd W T 4 M nm (flat ecell more) := fun W h => (h.rd e0 (by omega)).any
  have hmd : ∀ W, Fr W0 (w.heap.size + 1) 3 W → ∀ x ∈ more, Rd W (· < w.heap.size) 1 x.A x.n (bs x.d) := fun W h x hx => h.rd (f0 x hx).1 (by omega)
  rw [hm] at hmm
  obtain ⟨qr, hqr⟩ : ∃ q, rgt ix tm 0 (more.map en) = q := ⟨_, rfl⟩
  rw [hqr] at hrg hno
  have hlw : ∀ x ∈ L.map en, I64 x.a ∧ I64 x.b ∧ I64 x.c := fun x hx => by obtain ⟨y, hy, rfl⟩ := List.mem_map.1 hx; exact (hw y hy).1
  have hll := hr.flen ecell_len (by omega)
  have hbb := (lmay_iff.1 hm).1
  have hLE : (L.map en).length = n := by rw [List.length_map, hll]
  have hz3 := lmay_last hm
  rw [hLE] at hz3
  generalize hT : termL b t (L.map en) ix = TR at htm hno
  generalize lstA b (L.map en) = z at hlt hno hz3
  generalize lstB t (L.map en) = y at hlt
  have hbk := fun W (h : Fr W0 (w.heap.size + 1) 3 W) (h1 : b < ix) (h2 : ix ≤ b + n) => back_any b t ix A n c L W (h.rd r0 (by omega)) (by omega) (by omega) (by omega) h1 h2
  have Hbk := Lib.hid hbk
  have Hmm := Lib.hid hmm
  have Hlt := Lib.hid hlt
  have Htm := Lib.hid htm
  have Hrg := Lib.hid hrg
  have How := Lib.hid how
  have Hmr := Lib.hid hmr
  have Hmd := Lib.hid hmd
  have HW := Lib.hid hW0
  have Hz := Lib.hid hz
  have Hno := Lib.hid hno
  have Hz3 := Lib.hid hz3
  clear hW0 b0 u0 u1 u2 hr hr' hz r0 d0 e0 f0 hmm hlt htm hrg how hmr hmd hd hs hw hm gr gd gw gs hno hT hlw hll hLE hz3 hqr hbk
  go_enter Tryz.func127, Tryz.ntmps127
  go_wp2_with fail
  rw [← HW.out]
  refine (Hmm.out _ F0).mono ?_
  rintro e w1 ⟨rfl, hb1⟩
  have F1 := F0.below hb1
  have s1 := sof _ F1
  go_split_ands
  have hw1 : W0.heap.size ≤ w1.heap.size := F1.gr.size
  go_upto_region 3 with (fail)
  go_cut [11] (fun s11 W => ∃ (cB : Nat) (C : Option Addr) (cC : Nat) (cl : List Er), s11 = .pointer (some ⟨cB, 0, none⟩) ∧ Mg W (w.heap.size + 2) cB b t C n cC cl ∧ cl.map en = L.map en ∧ Fr W0 (w.heap.size + 1) 3 W)
  case first =>
    go_region_held3 (fun W => Fr W0 (w.heap.size + 1) 3 W ∧ W.cell? ⟨w.heap.size, 0, none⟩ = some (.int .i64 b) ∧ W.cell? ⟨w.heap.size, 1, none⟩ = some (.int .i64 t) ∧ W.cell? ⟨w.heap.size, 2, none⟩ = some (.slice A n c)) ((refine sof _ ?_; first | exact F1.drew | (go_split_ands; exact Fr.below (by assumption) (by assumption)) | (go_split_ands; exact Fr.alloc (by assumption) _) | (go_split_ands; exact Fr.far (Fr.far (Fr.far (by assumption) hw1 _) hw1 _) hw1 _))) (first
      | (go_at_call 117; refine (How.out _ (by go_split_ands; assumption)).mono ?_; rintro e w4 ⟨A4, c4, L4, rfl, ro4, sm4, hb4, z4⟩; have F4 : Fr W0 (w.heap.size + 1) 3 w4 := Fr.below (by go_split_ands; assumption) hb4; try (have X8 := (Bx.new w1 #[.int .i64 0, .int .i64 0, .slice none 0 0] 38 rfl).drew.below hb4; obtain ⟨x0, x1, x2, y0, y1, y2⟩ := X8.c3)))
    all_goals
      go_wp2_with fail
      go_meet
      case rel =>
        have hz := Hz.out
        have hz1 := hb1.size
        have hz4 := hb4.size
        first
          | (refine ⟨w4.heap.size, A4, c4, L4, rfl, Mg.make (Bx0 := w1.drew.heap.size) (ro4.alloc _) (by show _ ≤ w1.heap.size; omega) (Bx.new w4 _ _ rfl) (by simp at hz4; omega) (fun e => by have := own_lt ro4.ow _ e; omega) (fun y hy => (((ro4.dt y hy).1.lt (by omega)).alloc _).mono fun q hq => ⟨by have := hq.1.1; simp at this; omega, by have := hq.2; omega, hq.1.2⟩), sm4, F4.alloc _⟩)
          | (refine ⟨w1.heap.size, A4, c4, L4, rfl, Mg.make (Bx0 := w1.heap.size + 1) (((Ro.far (B := w1.heap.size + 1) (by simpa using ro4) (p := ⟨w1.heap.size, 0, none⟩) (by simp) _).far (p := ⟨w1.heap.size, 1, none⟩) (by simp) _).far (p := ⟨w1.heap.size, 2, none⟩) (by simp) _) (by omega) (by simpa using ((X8.set 0 (.int .i64 b)).set 1 (.int .i64 t)).set 2 (.slice A4 n c4)) (by omega) (fun e => by have := own_lt ro4.ow _ e; simp at this; omega) (fun y hy => ?_), sm4, Fr.far (Fr.far (Fr.far F4 hw1 _) hw1 _) hw1 _⟩
             have hne : ¬ w1.heap.size + 1 ≤ w1.heap.size := by omega
             have h6 : Rd w4 (fun q => w1.heap.size + 1 ≤ q ∧ A4.map (·.block) ≠ some q) 1 y.A y.n (bs y.d) := (ro4.dt y hy).1.mono fun q hq => ⟨by have := hq.1; simp at this; omega, hq.2⟩
             exact (((h6.setCell (p := ⟨w1.heap.size, 0, none⟩) (fun q => hne q.1) _).setCell (p := ⟨w1.heap.size, 1, none⟩) (fun q => hne q.1) _).setCell (p := ⟨w1.heap.size, 2, none⟩) (fun q => hne q.1) _).mono fun q hq => ⟨by omega, by omega, hq.2⟩)
  case rest =>
    obtain ⟨cB, C, cC, cl, rfl, mg, hsame, F3⟩ := hcut
    have s3 := sof _ F3
    have Mg0 := Lib.hid mg
    have Sm := Lib.hid hsame
    clear mg hsame
    go_split_ands
    by_cases c1 : ix < 0
    · have c1d : decide (ix < 0) = true := decide_eq_true c1
      obtain ⟨z0, z1, z2, z3, z4, z5⟩ := (Mg0.out).bx.c3
      have q0 : wc.cell? ⟨w.heap.size + 1, 0, none⟩ = some (peek wc (w.heap.size + 1) 0) := (F3).pk (by omega)
      have g0 : wc.frozen? ⟨w.heap.size + 1, 0, none⟩ = false := (F3).fz _
      have q1 : wc.cell? ⟨w.heap.size + 1, 1, none⟩ = some (peek wc (w.heap.size + 1) 1) := (F3).pk (by omega)
      have g1 : wc.frozen? ⟨w.heap.size + 1, 1, none⟩ = false := (F3).fz _
      have q2 : wc.cell? ⟨w.heap.size + 1, 2, none⟩ = some (peek wc (w.heap.size + 1) 2) := (F3).pk (by omega)
      have g2 : wc.frozen? ⟨w.heap.size + 1, 2, none⟩ = false := (F3).fz _
      have hlecB := (Mg0.out).le
      have nR1 : ¬ w.heap.size + 1 = cB := by omega
      have nR2 : ¬ cB = w.heap.size + 1 := by omega
      have F9 := Lib.hid (Fr.set (Fr.set (Fr.set (F3) 0 (.int .i64 b)) 1 (.int .i64 t)) 2 (.slice C n cC))
      have M9 := Lib.hid (Mg0.out)
      go_wp2_with fail
      refine bodyPost_ret (by simp [results, Tryz.results127, go_sem, q0, q1, q2]; rfl) rfl ?_
      have mF := ((((M9.out).far (p := ⟨w.heap.size + 1, 0, none⟩) (by show w.heap.size + 1 < _; omega) (.int .i64 b)).far (p := ⟨w.heap.size + 1, 1, none⟩) (by show w.heap.size + 1 < _; omega) (.int .i64 t)).far (p := ⟨w.heap.size + 1, 2, none⟩) (by show w.heap.size + 1 < _; omega) (.slice C n cC))
      exact ⟨C, n, cC, cl, _, rfl, (Rd.of_own mF.ow).mono (fun q hq => by omega), (fun y hy => ⟨(mF.dt y hy).1.mono (fun q hq => by have := hq.1; omega), (mF.dt y hy).2⟩), Sm.out, own_cap mF.ow, hbe.trans ((F9.out).to_below (B := w.heap.size) (by omega))⟩
    have c1d : decide (ix < 0) = false := decide_eq_false c1
    go_wp2_with fail
    refine (Hrg.out _ F3).mono ?_
    rintro e w5 ⟨rfl, hb5⟩
    have F5 := F3.below hb5
    have s5 := sof _ F5
    replace Mg0 := Lib.hid (Mg0.out.below hb5)
    go_split_ands
    clear F3
    cases qr
    · obtain ⟨z0, z1, z2, z3, z4, z5⟩ := (Mg0.out).bx.c3
      have q0 : w5.cell? ⟨w.heap.size + 1, 0, none⟩ = some (peek w5 (w.heap.size + 1) 0) := (F5).pk (by omega)
      have g0 : w5.frozen? ⟨w.heap.size + 1, 0, none⟩ = false := (F5).fz _
      have q1 : w5.cell? ⟨w.heap.size + 1, 1, none⟩ = some (peek w5 (w.heap.size + 1) 1) := (F5).pk (by omega)
      have g1 : w5.frozen? ⟨w.heap.size + 1, 1, none⟩ = false := (F5).fz _
      have q2 : w5.cell? ⟨w.heap.size + 1, 2, none⟩ = some (peek w5 (w.heap.size + 1) 2) := (F5).pk (by omega)
      have g2 : w5.frozen? ⟨w.heap.size + 1, 2, none⟩ = false := (F5).fz _
      have hlecB := (Mg0.out).le
      have nR1 : ¬ w.heap.size + 1 = cB := by omega
      have nR2 : ¬ cB = w.heap.size + 1 := by omega
      have F9 := Lib.hid (Fr.set (Fr.set (Fr.set (F5) 0 (.int .i64 b)) 1 (.int .i64 t)) 2 (.slice C n cC))
      have M9 := Lib.hid (Mg0.out)
      go_wp2_with fail
      refine bodyPost_ret (by simp [results, Tryz.results127, go_sem, q0, q1, q2]; rfl) rfl ?_
      have mF := ((((M9.out).far (p := ⟨w.heap.size + 1, 0, none⟩) (by show w.heap.size + 1 < _; omega) (.int .i64 b)).far (p := ⟨w.heap.size + 1, 1, none⟩) (by show w.heap.size + 1 < _; omega) (.int .i64 t)).far (p := ⟨w.heap.size + 1, 2, none⟩) (by show w.heap.size + 1 < _; omega) (.slice C n cC))
      exact ⟨C, n, cC, cl, _, rfl, (Rd.of_own mF.ow).mono (fun q hq => by omega), (fun y hy => ⟨(mF.dt y hy).1.mono (fun q hq => by have := hq.1; omega), (mF.dt y hy).2⟩), Sm.out, own_cap mF.ow, hbe.trans ((F9.out).to_below (B := w.heap.size) (by omega))⟩
    go_wp2_with fail
    refine (Hlt.out _ F5).mono ?_
    rintro e w6 ⟨rfl, hb6⟩
    have F6 := F5.below hb6
    have s6 := sof _ F6
    replace Mg0 := Lib.hid (Mg0.out.below hb6)
    go_split_ands
    clear F5
    by_cases c2 : z < ix
    · have c2d : decide (z < ix) = true := decide_eq_true c2
      obtain ⟨z0, z1, z2, z3, z4, z5⟩ := (Mg0.out).bx.c3
      have q0 : w6.cell? ⟨w.heap.size + 1, 0, none⟩ = some (peek w6 (w.heap.size + 1) 0) := (F6).pk (by omega)
      have g0 : w6.frozen? ⟨w.heap.size + 1, 0, none⟩ = false := (F6).fz _
      have q1 : w6.cell? ⟨w.heap.size + 1, 1, none⟩ = some (peek w6 (w.heap.size + 1) 1) := (F6).pk (by omega)
      have g1 : w6.frozen? ⟨w.heap.size + 1, 1, none⟩ = false := (F6).fz _
      have q2 : w6.cell? ⟨w.heap.size + 1, 2, none⟩ = some (peek w6 (w.heap.size + 1) 2) := (F6).pk (by omega)
      have g2 : w6.frozen? ⟨w.heap.size + 1, 2, none⟩ = false := (F6).fz _
      have hlecB := (Mg0.out).le
      have nR1 : ¬ w.heap.size + 1 = cB := by omega
      have nR2 : ¬ cB = w.heap.size + 1 := by omega
      have F9 := Lib.hid (Fr.set (Fr.set (Fr.set (F6) 0 (.int .i64 b)) 1 (.int .i64 t)) 2 (.slice C n cC))
      have M9 := Lib.hid (Mg0.out)
      go_wp2_with fail
      refine bodyPost_ret (by simp [results, Tryz.results127, go_sem, q0, q1, q2]; rfl) rfl ?_
      have mF := ((((M9.out).far (p := ⟨w.heap.size + 1, 0, none⟩) (by show w.heap.size + 1 < _; omega) (.int .i64 b)).far (p := ⟨w.heap.size + 1, 1, none⟩) (by show w.heap.size + 1 < _; omega) (.int .i64 t)).far (p := ⟨w.heap.size + 1, 2, none⟩) (by show w.heap.size + 1 < _; omega) (.slice C n cC))
      exact ⟨C, n, cC, cl, _, rfl, (Rd.of_own mF.ow).mono (fun q hq => by omega), (fun y hy => ⟨(mF.dt y hy).1.mono (fun q hq => by have := hq.1; omega), (mF.dt y hy).2⟩), Sm.out, own_cap mF.ow, hbe.trans ((F9.out).to_below (B := w.heap.size) (by omega))⟩
    have c2d : decide (z < ix) = false := decide_eq_false c2
    have hcf : TR.1 = 0 ∧ b < ix ∧ TR.2 ≠ tm := by
      rcases Hno.out with h | h | h | h
      · omega
      · cases h
      · omega
      · exact h
    obtain ⟨f1, f2, f3⟩ := hcf
    have f2d : decide (b < ix) = true := decide_eq_true f2
    have f3d : (TR.2 != tm) = true := by simpa using f3
    obtain ⟨tr1, tr2⟩ := TR
    dsimp only at f1
    subst f1
    go_wp2_with fail
    refine (Htm.out _ F6).mono ?_
    rintro e w7 ⟨rfl, hb7⟩
    have F7 := F6.below hb7
    have s7 := sof _ F7
    replace Mg0 := Lib.hid (Mg0.out.below hb7)
    go_split_ands
    clear F6
    rw [show errC 0 = .nilIface from rfl]
    go_upto_region 11 with (fail)
    have hS0 : Fr W0 (w.heap.size + 1) 3 w7.drew ∧ Mg w7.drew (w.heap.size + 2) cB b t C n cC cl := ⟨F7.drew, Mg0.out.below (Below.refl _ _).drew⟩
    have FS := Lib.hid (fun W (h : Fr W0 (w.heap.size + 1) 3 W ∧ Mg W (w.heap.size + 2) cB b t C n cC cl) => And.intro (sof W h.1).2 h.2.bx.c3)
    have hz3 := Hz3.out
    have hzz := Lib.hid (show ix ≤ b + n by omega)
    refine wp_region_S 6 (fun W => Fr W0 (w.heap.size + 1) 3 W ∧ Mg W (w.heap.size + 2) cB b t C n cC cl) (.take 0 (.take 1 (.take 2 (.one 3 (.one 4 (.take 5 (.one 6 (.nil)))))))) (by kernel_rfl) hS0 (fun _ _ _ _ h => h) (fun hS => ?_)
    repeat (first
      | (refine wpS_take (v := ?_) rfl rfl (by rfl) ?_ ?_; rotate_left; (intro W hW; have hf := FS.out W hW; go_split_ands; go_simp; try with_reducible rfl); try simp only [Act.put, lyA, lyB, lyC])
      | (refine wpS_skip rfl rfl (by rfl) ?_; try simp only [Act.put, lyA, lyB, lyC]))
    refine wpS_one rfl (by rfl) (fun K hK => ?_)
    go_simp
    go_at_call 181
    refine (Hbk.out _ hS.1 f2 hzz.out).mono ?_
    rintro e wq ⟨k9, rfl, hb9⟩
    have F4 : Fr W0 (w.heap.size + 1) 3 wq := hS.1.below hb9
    have M4 := hS.2.below hb9
    clear hS hS0 hb9
    refine hK (fun W => Fr W0 (w.heap.size + 1) 3 W ∧ Mg W (w.heap.size + 2) cB b t C n cC cl) _ _ (fun W h => h) ⟨F4, M4⟩ ?_
    clear hK K
    try simp only [Act.put, lyA, lyB, lyC]
    repeat (first
      | (refine wpS_take (v := ?_) rfl rfl (by rfl) ?_ ?_; rotate_left; (intro W hW; have hf := FS.out W hW; go_split_ands; go_simp; try with_reducible rfl); try simp only [Act.put, lyA, lyB, lyC])
      | (refine wpS_skip rfl rfl (by rfl) ?_; try simp only [Act.put, lyA, lyB, lyC]))
    have q0 : wq.cell? ⟨w.heap.size + 1, 0, none⟩ = some (peek wq (w.heap.size + 1) 0) := F4.pk (by omega)
    have g0 : wq.frozen? ⟨w.heap.size + 1, 0, none⟩ = false := F4.fz _
    have q1 : wq.cell? ⟨w.heap.size + 1, 1, none⟩ = some (peek wq (w.heap.size + 1) 1) := F4.pk (by omega)
    have g1 : wq.frozen? ⟨w.heap.size + 1, 1, none⟩ = false := F4.fz _
    have q2 : wq.cell? ⟨w.heap.size + 1, 2, none⟩ = some (peek wq (w.heap.size + 1) 2) := F4.pk (by omega)
    have g2 : wq.frozen? ⟨w.heap.size + 1, 2, none⟩ = false := F4.fz _
    refine wpS_one rfl (by rfl) (fun K hK => ?_)
    go_simp
    have F5 := Fr.set (Fr.set (Fr.set F4 0 (.int .i64 b)) 1 (.int .i64 t)) 2 (.slice C n cC)
    have M5 := ((M4.far (p := ⟨w.heap.size + 1, 0, none⟩) (by show w.heap.size + 1 < _; omega) (.int .i64 b)).far (p := ⟨w.heap.size + 1, 1, none⟩) (by show w.heap.size + 1 < _; omega) (.int .i64 t)).far (p := ⟨w.heap.size + 1, 2, none⟩) (by show w.heap.size + 1 < _; omega) (.slice C n cC)
    refine hK (fun W => Fr W0 (w.heap.size + 1) 3 W ∧ Mg W (w.heap.size + 2) cB b t C n cC cl) _ _ (fun W h => h) ⟨F5, M5⟩ ?_
    clear hK K
    try simp only [Act.put, lyA, lyB, lyC]
    repeat (first
      | (refine wpS_take (v := ?_) rfl rfl (by rfl) ?_ ?_; rotate_left; (intro W hW; have hf := FS.out W hW; go_split_ands; go_simp; try with_reducible rfl); try simp only [Act.put, lyA, lyB, lyC])
      | (refine wpS_skip rfl rfl (by rfl) ?_; try simp only [Act.put, lyA, lyB, lyC]))
    refine wpS_last rfl (by rfl) (fun K hK => ?_)
    go_simp
    refine hK _ _ ?_
    clear hK K
    try simp only [Act.put, lyA, lyB, lyC]
    refine wpS_nil ?_
    go_wp2_with fail
    refine bodyPost_ret (by simp [results, Tryz.results127, go_sem, q0, q1, q2]; rfl) rfl ?_
    exact ⟨C, n, cC, cl, _, rfl, (Rd.of_own M5.ow).mono (fun q hq => by omega), (fun y hy => ⟨(M5.dt y hy).1.mono (fun q hq => by have := hq.1; omega), (M5.dt y hy).2⟩), Sm.out, own_cap M5.ow, hbe.trans (F5.to_below (B := w.heap.size) (by omega))⟩
theorem merge_zeroW (b t ix tm : Int) (A : Option Addr) (n c : Nat) (L : List Er) (M : Option Addr) (nm cm : Nat) (w : World) (hr : Rd w T 4 A n (flat ecell L)) (hw : Wel L) (hm : lmay b t (L.map en) = false) (hn : n ≤ 1000000) :
  Calls Tryz.prog 127 #[.agg #[.int .i64 b, .int .i64 t, .slice A n c], .int .i64 ix, .int .i64 tm, .slice M nm cm] w (fun e w' => e = .returned (.tuple #[.agg #[.int .i64 0, .int .i64 0, .slice none 0 0], .int .i64 0, .bool false]) ∧ Below w.heap.size w w') := by
 obtain ⟨W0, hW0⟩ : ∃ W0, W0 = (w.alloc (.cells #[.int .i64 b, .int .i64 t, .slice A n c] 38)).alloc (.cells #[.int .i64 0, .int .i64 0, .slice none 0 0] 38) := ⟨_, rfl⟩
 have F0 : Fr W0 (w.heap.size + 1) 3 W0 := by subst hW0; exact Fr.new (by simp) rfl
 have hbe : Below w.heap.size w W0 := by subst hW0; exact ((Below.refl _ _).alloc (Nat.le_refl _) _).alloc (by simp) _
 have hmm := may_any b t A n c L W0 (hr.below hbe) hw hn
 rw [hm] at hmm
 have Hmm := Lib.hid hmm
 have HW := Lib.hid hW0
 clear hW0 hr hw hm hmm
 go_enter Tryz.func127, Tryz.ntmps127
 go_wp2_with fail
 rw [← HW.out]
 refine Hmm.out.mono ?_
 rintro e w2 ⟨rfl, hb2⟩
 have F2 := F0.below hb2
 have q0 : w2.cell? ⟨w.heap.size + 1, 0, none⟩ = some (peek w2 (w.heap.size + 1) 0) := F2.pk (by omega)
 have q1 : w2.cell? ⟨w.heap.size + 1, 1, none⟩ = some (peek w2 (w.heap.size + 1) 1) := F2.pk (by omega)
 have q2 : w2.cell? ⟨w.heap.size + 1, 2, none⟩ = some (peek w2 (w.heap.size + 1) 2) := F2.pk (by omega)
 have g0 : w2.frozen? ⟨w.heap.size + 1, 0, none⟩ = false := F2.fz _
 have g1 : w2.frozen? ⟨w.heap.size + 1, 1, none⟩ = false := F2.fz _
 have g2 : w2.frozen? ⟨w.heap.size + 1, 2, none⟩ = false := F2.fz _
 go_wp2_with fail
 have FF := Fr.set (Fr.set (Fr.set F2 0 (.int .i64 0)) 1 (.int .i64 0)) 2 (.slice none 0 0)
 refine bodyPost_ret (by simp [results, Tryz.results127, go_sem, q0, q1, q2]; rfl) rfl ?_
 exact ⟨rfl, hbe.trans (FF.to_below (B := w.heap.size) (by omega))⟩
end Go.Proofs.YtmhaahcbmdhinaaGreatDoor
namespace Go.Proofs.YtmhaahcbmdhinaaGreatDoor
set_option linter.unusedVariables false
set_option linter.unusedSimpArgs false
end Go.Proofs.YtmhaahcbmdhinaaGreatDoor
namespace Go.Proofs.YtmhaahcbmdhinaaGreatDoor
open Go.RowKit
set_option maxRecDepth 100000
set_option linter.unusedVariables false
set_option linter.unusedSimpArgs false
theorem merge_allW (b t ix tm : Int) (A : Option Addr) (n c : Nat) (L : List Er) (M : Option Addr) (nm cm : Nat) (more : List Er) (w : World) (hr : Rd w T 4 A n (flat ecell L)) (hd : Dat w L) (hw : Wel L) (hs : ∀ x ∈ L, x.n ≤ 1000000) (hn : n ≤ 1000000)
  (gr : Rd w T 4 M nm (flat ecell more)) (gd : Dat w more) (gw : Wel more) (gs : ∀ x ∈ more, x.n ≤ 1000000) (hnm : nm ≤ 1000000) :
  Calls Tryz.prog 127 #[.agg #[.int .i64 b, .int .i64 t, .slice A n c], .int .i64 ix, .int .i64 tm, .slice M nm cm] w (MergePostW w b t (L.map en) (mergeB b t (L.map en) ix tm (more.map en)) (mergeR b (L.map en) ix (more.map en))) := by
 have hll := hr.flen ecell_len (by omega)
 by_cases hm : lmay b t (L.map en) = true
 ·have hn4 : (n : Int) ≤ 4096 := by have := (lmay_iff.1 hm).2.1; rw [List.length_map] at this; omega
  by_cases hno : ix < 0 ∨ rgt ix tm 0 (more.map en) = false ∨ lstA b (L.map en) < ix ∨ ((termL b t (L.map en) ix).1 = 0 ∧ b < ix ∧ (termL b t (L.map en) ix).2 ≠ tm)
  ·refine (merge_noW b t ix tm A n c L M nm cm more w hr hd hw hs hm hn4 gr gd gw gs hnm hno).mono ?_
   rintro e w' ⟨A', n', c', L', k, rfl, h1, h2, h3, h4, h5⟩
   refine ⟨b, t, A', n', c', L', k, false, rfl, h1, h2, h4, .inr (.inl ⟨rfl, ?_, hm, rfl, rfl, h3⟩), h5⟩
   rintro ⟨-, y1, y2, y3, y4, -⟩
   rcases hno with h | h | h | h
   ·omega
   ·rw [y2] at h; cases h
   ·omega
   ·exact y4 h
  ·have h1 : 0 ≤ ix := by
    refine Int.not_lt.1 fun h => hno (.inl h)
   have h2 : rgt ix tm 0 (more.map en) = true := by
    cases hh : rgt ix tm 0 (more.map en) with
    | true => rfl
    | false => exact absurd (.inr (.inl hh)) hno
   have h3 : ix ≤ lstA b (L.map en) := Int.not_lt.1 fun h => hno (.inr (.inr (.inl h)))
   have h4 : ¬ ((termL b t (L.map en) ix).1 = 0 ∧ b < ix ∧ (termL b t (L.map en) ix).2 ≠ tm) := fun h => hno (.inr (.inr (.inr h)))
   refine (merge_finW b t ix tm A n c L M nm cm more w hr hd hw hs hm hn4 gr gd gw gs hnm h1 h2 h3 h4).mono ?_
   intro e w' hp
   unfold MergeFinW at hp
   split at hp
   ·rename_i h5
    obtain ⟨A', n', c', L', rfl, k1, k2, k3, k4, k5⟩ := hp
    exact ⟨b, t, A', n', c', L', _, true, rfl, k1, k2, k4, .inl ⟨rfl, ⟨hm, h1, h2, h3, h4, h5⟩, rfl, rfl, k3, rfl⟩, k5⟩
   ·rename_i h5
    obtain ⟨A', n', c', L', k, rfl, k1, k2, k3, k4, k5⟩ := hp
    exact ⟨b, t, A', n', c', L', k, false, rfl, k1, k2, k4, .inr (.inl ⟨rfl, fun y => h5 y.2.2.2.2.2, hm, rfl, rfl, k3⟩), k5⟩
 ·rw [Bool.not_eq_true] at hm
  refine (merge_zeroW b t ix tm A n c L M nm cm w hr hw hm hn).mono ?_
  rintro e w' ⟨rfl, h⟩
  exact ⟨0, 0, none, 0, 0, [], 0, false, rfl, Rd.none_, fun y hy => (by cases hy), ⟨Nat.le_refl _, by simp [maxLen]⟩, .inr (.inr ⟨rfl, fun y => (by rw [y.1] at hm; cases hm), hm, rfl, rfl, rfl⟩), h⟩
theorem merge_gives : MergeGives := fun b t ix tm A n c L M nm cm more w hr hd hw hs hn gr gd gw gs hnm => merge_allW b t ix tm A n c L M nm cm more w hr hd hw hs hn gr gd gw gs hnm
end Go.Proofs.YtmhaahcbmdhinaaGreatDoor
