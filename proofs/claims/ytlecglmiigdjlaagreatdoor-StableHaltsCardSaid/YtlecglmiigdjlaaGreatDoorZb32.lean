/- Walks: the law's sameLog, sameStored at the same, long.
   Walk: the law's sure.
   Walk: the law's long.
   The stable laws: a keeper, and beside it the block of what should be kept now.
   errors.As at a target of type *api.Errno, the error nil or an api.Errno; turned from the kit's worked text ToyasAs to an element type that is an integer. Then tollbarlaw..num is walked in a text of its own. -/
import Derived.Test.YtlecglmiigdjlaaGreatDoorZb31
import Derived.Test.YtlecglmiigdjlaaGreatDoorZb14
import Derived.Test.YtlecglmiigdjlaaGreatDoorZb27
import Derived.Test.YtlecglmiigdjlaaGreatDoorProg
import Derived.WalkKit
import Derived.LaidEql
import Derived.Stop.Asserts
import Derived.RowKitTokens
namespace Go.Proofs.YtlecglmiigdjlaaGreatDoor
open Go.RowKit
set_option maxRecDepth 100000
set_option linter.unusedVariables false
set_option linter.unusedSimpArgs false
theorem wt_of {s : Sv} {W : World} {ok : Nat → Prop} (hf : s.Fit) (hm : s.st.may = true) : ∀ x ∈ s.L, Wt x := fun x hx => by
  have h1 := (St.may_iff hm).2.2.2.2.1 (en x) (List.mem_map_of_mem hx)
  have h2 := hf.w x hx
  unfold EnOk at h1
  unfold Wt
  simp only [en] at h1
  exact ⟨by omega, by omega, by omega, by omega, by omega, by omega, h2.2⟩
set_option maxHeartbeats 1600000 in
theorem sameLog_yes (x y : Sv) (w : World) {ok ok' : Nat → Prop} (hx : x.At w ok) (hy : y.At w ok') (fx : x.Fit) (fy : y.Fit) (hst : x.st = y.st) (hm : x.st.may = true) (htab : TabW w) :
    Calls Tryz.prog 44 #[.agg #[.int .i64 x.b, .int .i64 x.t, .slice x.A x.n x.c], .agg #[.int .i64 y.b, .int .i64 y.t, .slice y.A y.n y.c]] w (BoolPost w true) := by
  obtain ⟨e1, e2, e3, e4, e5, e6, e7⟩ := st_iff.1 hst
  have k3 : x.b = y.b := e3
  have k4 : x.t = y.t := e4
  have k5 : y.L.map en = x.L.map en := e5.symm
  have l1 := hx.l.flen ecell_len (by omega)
  have l2 := hy.l.flen ecell_len (by omega)
  have kn : y.n = x.n := by have := congrArg List.length k5; rw [List.length_map, List.length_map] at this; omega
  obtain ⟨W0, hW0⟩ : ∃ W0, W0 = (w.alloc (.cells #[.int .i64 x.b, .int .i64 x.t, .slice x.A x.n x.c] 31)).alloc (.cells #[.int .i64 y.b, .int .i64 y.t, .slice y.A y.n y.c] 48) := ⟨_, rfl⟩
  have b0 : Bx W0 w.heap.size #[.int .i64 x.b, .int .i64 x.t, .slice x.A x.n x.c] := by subst hW0; exact (Bx.new _ _ _ rfl).alloc _
  have b1 : Bx W0 (w.heap.size + 1) #[.int .i64 y.b, .int .i64 y.t, .slice y.A y.n y.c] := by subst hW0; exact Bx.new _ _ _ (by simp)
  have hbe : Below w.heap.size w W0 := by subst hW0; exact ((Below.refl _ _).alloc (Nat.le_refl _) _).alloc (by simp) _
  have a0 := hx.below hbe
  have a1 := hy.below hbe
  have l' := a1.l
  rw [kn] at l'
  have hen := entries_yes x.A x.n x.c x.L y.A y.c y.L W0 a0.l l' (fun z hz => (a0.d z hz).1.any) (fun z hz => (a1.d z hz).1.any) k5 (wt_of (W := w) (ok := ok) fx hm) (wt_of (W := w) (ok := ok) fy (by rw [← hst]; exact hm)) fx.z.1 (htab.below hbe (Nat.le_refl _))
  rw [← kn] at hen
  have hen' : Calls Tryz.prog 81 #[.slice x.A x.n x.c, .slice y.A y.n y.c] W0 (BoolPost W0 true) := by rw [kn] at hen ⊢; exact hen
  have q1 : (x.b == y.b) = true := by simpa using k3
  have q2 : (x.t == y.t) = true := by simpa using k4
  obtain ⟨c0, c1, c2, -⟩ := b0.c3
  obtain ⟨d0, d1, d2, -⟩ := b1.c3
  have HW := Lib.hid hW0
  have B := Lib.hid hbe
  have Hen := Lib.hid hen'
  clear hW0 b0 b1 hbe a0 a1 l' hen hen' hx hy fx fy hst hm htab e1 e2 e3 e4 e5 e6 e7 k3 k4 k5 l1 l2 kn
  go_enter Tryz.func44, Tryz.ntmps44
  go_upto_region 1 with (fail)
  rw [← HW.out]
  go_wp2_with fail
  refine Hen.out.mono ?_
  rintro e w1 ⟨rfl, hb1⟩
  have K := Lib.hid (B.out.trans (hb1.mono B.out.size))
  clear hb1
  go_wp2_with fail
  go_ret
  exact ⟨rfl, K.out⟩
set_option maxHeartbeats 3200000 in
theorem sameS_yes (x y : Sv) (w : World) {ok ok' : Nat → Prop} (hx : x.At w ok) (hy : y.At w ok') (fx : x.Fit) (fy : y.Fit) (hst : x.st = y.st) (hm : x.st.may = true) (htab : TabW w) :
    Calls Tryz.prog 19 #[x.val, y.val] w (BoolPost w true) := by
  obtain ⟨e1, e2, e3, e4, e5, e6, e7⟩ := st_iff.1 hst
  have k1 : x.tm = y.tm := e1
  have k2 : x.vt = y.vt := e2
  have k6 : x.cf = y.cf := e6
  have k7 : x.sn = y.sn := e7
  obtain ⟨W0, hW0⟩ : ∃ W0, W0 = (w.alloc (.cells x.cells 35)).alloc (.cells y.cells 50) := ⟨_, rfl⟩
  have b0 : Bx W0 w.heap.size x.cells := by subst hW0; exact (Bx.new _ _ _ rfl).alloc _
  have b1 : Bx W0 (w.heap.size + 1) y.cells := by subst hW0; exact Bx.new _ _ _ (by simp)
  have hbe : Below w.heap.size w W0 := by subst hW0; exact ((Below.refl _ _).alloc (Nat.le_refl _) _).alloc (by simp) _
  have a0 := hx.below hbe
  have a1 := hy.below hbe
  have hlg := sameLog_yes x y W0 a0 a1 fx fy hst hm (htab.below hbe (Nat.le_refl _))
  have hin := fun W (hb : Below W0.heap.size W0 W) => ints_any x.C x.nc x.cc y.C y.nc y.cc x.cf y.cf W (a0.cf.below hb) (a1.cf.below hb) (by have := fx.z.2.1; omega)
  rw [decide_eq_true k6] at hin
  have cv1 := fun W (hb : Below W0.heap.size W0 W) => conv_bytes (P := Tryz.prog) (c := x.cs) 33 9 5 Tryz.underlying33 Tryz.underlying5 Tryz.underlying9 (a0.sn.below hb)
  have cv2 := fun W (hb : Below W0.heap.size W0 W) => conv_bytes (P := Tryz.prog) (c := y.cs) 33 9 5 Tryz.underlying33 Tryz.underlying5 Tryz.underlying9 (a1.sn.below hb)
  have F : ∀ W, Below W0.heap.size W0 W → (W.cell? ⟨w.heap.size, 0, none⟩ = some (.int .i64 x.tm) ∧ W.cell? ⟨w.heap.size, 1, none⟩ = some (.int .i64 x.vt) ∧ W.cell? ⟨w.heap.size, 2, none⟩ = some (.int .i64 x.b) ∧ W.cell? ⟨w.heap.size, 3, none⟩ = some (.int .i64 x.t) ∧ W.cell? ⟨w.heap.size, 4, none⟩ = some (.slice x.A x.n x.c) ∧ W.cell? ⟨w.heap.size, 5, none⟩ = some (.slice x.C x.nc x.cc) ∧ W.cell? ⟨w.heap.size, 6, none⟩ = some (.slice x.S x.ns x.cs)) ∧ (W.cell? ⟨w.heap.size + 1, 0, none⟩ = some (.int .i64 y.tm) ∧ W.cell? ⟨w.heap.size + 1, 1, none⟩ = some (.int .i64 y.vt) ∧ W.cell? ⟨w.heap.size + 1, 2, none⟩ = some (.int .i64 y.b) ∧ W.cell? ⟨w.heap.size + 1, 3, none⟩ = some (.int .i64 y.t) ∧ W.cell? ⟨w.heap.size + 1, 4, none⟩ = some (.slice y.A y.n y.c) ∧ W.cell? ⟨w.heap.size + 1, 5, none⟩ = some (.slice y.C y.nc y.cc) ∧ W.cell? ⟨w.heap.size + 1, 6, none⟩ = some (.slice y.S y.ns y.cs)) := fun W hb => ⟨Sv.c7 (b0.below hb), Sv.c7 (b1.below hb)⟩
  obtain ⟨⟨c0, c1, c2, c3, c4, c5, c6⟩, d0, d1, d2, d3, d4, d5, d6⟩ := F W0 (Below.refl _ _)
  have q1 : (x.tm == y.tm) = true := by simpa using k1
  have q2 : (x.vt == y.vt) = true := by simpa using k2
  have q7 : (x.sn == y.sn) = true := by simpa using k7
  have HW := Lib.hid hW0
  have B := Lib.hid hbe
  have Hlg := Lib.hid hlg
  have Hin := Lib.hid hin
  have CV := Lib.hid (And.intro cv1 cv2)
  have FF := Lib.hid F
  clear hW0 b0 b1 hbe a0 a1 hlg hin cv1 cv2 F hx hy fx fy hst hm htab e1 e2 e3 e4 e5 e6 e7 k1 k2 k6 k7
  unfold Sv.val stA
  go_enter Tryz.func19, Tryz.ntmps19
  go_upto_region 1 with (fail)
  have HW' := HW.out
  unfold Sv.cells at HW'
  rw [← HW']
  clear HW'
  go_wp2_with fail
  refine Hlg.out.mono ?_
  rintro e w1 ⟨rfl, hb1⟩
  have K1 := Lib.hid hb1
  clear hb1 c0 c1 c2 c3 c4 c5 c6 d0 d1 d2 d3 d4 d5 d6
  obtain ⟨⟨c0, c1, c2, c3, c4, c5, c6⟩, d0, d1, d2, d3, d4, d5, d6⟩ := FF.out w1 K1.out
  go_wp2_with fail
  refine (Hin.out w1 K1.out).mono ?_
  rintro e w2 ⟨rfl, hb2⟩
  have K2 := Lib.hid (K1.out.trans (hb2.mono K1.out.size))
  clear hb2 c0 c1 c2 c3 c4 c5 c6 d0 d1 d2 d3 d4 d5 d6
  obtain ⟨⟨c0, c1, c2, c3, c4, c5, c6⟩, d0, d1, d2, d3, d4, d5, d6⟩ := FF.out w2 K2.out
  have v1 := CV.out.1 w2 K2.out
  have v2 := CV.out.2 w2 K2.out
  go_wp2_with fail
  go_ret
  exact ⟨rfl, B.out.trans (K2.out.mono B.out.size)⟩
end Go.Proofs.YtlecglmiigdjlaaGreatDoor
namespace Go.Proofs.YtlecglmiigdjlaaGreatDoor
open Go.RowKit
set_option maxRecDepth 100000
set_option linter.unusedVariables false
set_option linter.unusedSimpArgs false
theorem Kept.under {L : Nat → Prop} {B : Nat} {W W' : World} (h : Kept L W W') (hl : ∀ b, L b → B ≤ b) (hz : B ≤ W.heap.size) : Below B W W' := h.below hl hz
theorem lm0 {z : Sv} {cf : List Int} (h : z.st = St0 cf) : lmay z.b z.t (z.L.map en) = true := by
  obtain ⟨_, _, h3, h4, h5, _⟩ := st_iff.1 h
  have k3 : z.b = 0 := h3
  have k4 : z.t = 0 := h4
  have k5 : z.L.map en = [] := h5
  rw [k3, k4, k5]
  rfl
theorem fld_cf (a b c d : Int) (A B C : Option Addr) (n m p q r t : Nat) (W : World) : (Instr.field 35 (.agg #[.int .i64 a, .int .i64 b, .int .i64 c, .int .i64 d, .slice A n m, .slice B p q, .slice C r t]) 3).run Tryz.prog W = .ok (.slice B p q) W := by kernel_rfl
theorem fld_tm (a b c d : Int) (A B C : Option Addr) (n m p q r t : Nat) (W : World) : (Instr.field 35 (.agg #[.int .i64 a, .int .i64 b, .int .i64 c, .int .i64 d, .slice A n m, .slice B p q, .slice C r t]) 0).run Tryz.prog W = .ok (.int .i64 a) W := by kernel_rfl
theorem fld_vt (a b c d : Int) (A B C : Option Addr) (n m p q r t : Nat) (W : World) : (Instr.field 35 (.agg #[.int .i64 a, .int .i64 b, .int .i64 c, .int .i64 d, .slice A n m, .slice B p q, .slice C r t]) 1).run Tryz.prog W = .ok (.int .i64 b) W := by kernel_rfl
attribute [local go_sem] fld_cf fld_tm fld_vt
set_option maxHeartbeats 6400000 in
theorem sure_any (w : World) (htab : TabW w) (hev : EvW w w.heap.size) : Calls Tryz.prog 10 #[] w (BoolPost w true) := by
  have hbl := blank_any 2000 (by omega) (by omega) w
  have htb := fun W (hb : Below w.heap.size w W) => htab.below hb (Nat.le_refl _)
  have hvb := fun W (hb : Below w.heap.size w W) => (hev.below hb (Nat.le_refl _)).mono hb.size
  have Hbl := Lib.hid hbl
  have Htb := Lib.hid htb
  have Hvb := Lib.hid hvb
  clear hbl htb hvb htab hev
  go_enter Tryz.func10, Tryz.ntmps10
  go_wp2_with fail
  refine Hbl.out.mono ?_
  rintro e w1 ⟨L, g, rfl, hd, hl, hb1⟩
  have H1 := Lib.hid (And.intro hd (And.intro hl hb1))
  clear hd hl hb1
  go_wp2_with fail
  have hb2 : Below w1.heap.size w1 (w1.alloc (.cells #[.int .i64 1, .int .i64 2, .int .i64 3] 3)) := (Below.refl _ _).alloc (Nat.le_refl _) _
  have hb02 := H1.out.2.2.trans (hb2.mono H1.out.2.2.size)
  have rl : Rd (w1.alloc (.cells #[.int .i64 1, .int .i64 2, .int .i64 3] 3)) (fun b => ¬ L b) 1 (some ⟨w1.heap.size, 0, none⟩) 3 (ii [1, 2, 3]) := (show Rd (w1.alloc (.cells #[.int .i64 1, .int .i64 2, .int .i64 3] 3)) (w1.heap.size ≤ ·) 1 (some ⟨w1.heap.size, 0, none⟩) 3 [.int .i64 1, .int .i64 2, .int .i64 3] from Rd.lit rfl).mono fun b hb hL => by have := H1.out.1.lt b hL; have h9 : w1.heap.size ≤ b := hb; omega
  refine (kopen_any (some ⟨w1.heap.size, 0, none⟩) 3 3 [1, 2, 3] _ (H1.out.1.below hb2) rl ⟨by omega, by unfold maxLen; omega⟩ (by rfl) (by omega) rfl (by simp [Dk.make]) (Htb.out _ hb02) (Hvb.out _ hb02) (fb := 0) (by simp)).mono ?_
  intro e w3 hp
  obtain ⟨K1, D1, k, t0, t1, z1, L', rfl, kx, hl', hk0, hk1, hk2, hkp, hi, hn1, hnow, harm⟩ := hp.fresh (by rfl) (by omega)
  have hb3 : Below w.heap.size w w3 := hb02.trans (hkp.under H1.out.2.1 hb02.size)
  have hz2 := hb02.size
  have lo1 : ∀ b, L' b → w.heap.size ≤ b := fun b hb => (hl' b hb).elim (H1.out.2.1 b) fun h => by omega
  have hst1 : z1.st = St0 [1, 2, 3] := kx.st.trans hnow
  have hld := load_any w3 kx (lm0 hst1)
  rw [hnow] at hld
  have H3 := Lib.hid (And.intro kx (And.intro hb3 (And.intro lo1 (And.intro hi (And.intro hn1 (And.intro hnow (And.intro harm (And.intro (by omega : w.heap.size ≤ k) (And.intro (by omega : w.heap.size ≤ t0) (by omega : w.heap.size ≤ t1))))))))))
  have Hld := Lib.hid hld
  clear kx hl' hk0 hk1 hk2 hkp hi hn1 hnow harm hb3 lo1 hst1 hld hb2 hb02 rl hz2 hp
  go_wp2_with fail
  refine Hld.out.mono ?_
  rintro e w4 ⟨s4, rfl, a4, e4, f4, hb4⟩
  have hcf4 : s4.cf = [1, 2, 3] := (st_iff.1 e4).2.2.2.2.2.1
  have hin := fun W (hb : Below w4.heap.size w4 W) (h : Rd W T 1 (some ⟨w4.heap.size, 0, none⟩) 3 (ii [1, 2, 3])) => ints_any s4.C s4.nc s4.cc (some ⟨w4.heap.size, 0, none⟩) 3 3 s4.cf [1, 2, 3] W (a4.cf.below hb) h (by have := f4.z.2.1; omega)
  rw [decide_eq_true hcf4] at hin
  have Hin := Lib.hid hin
  have H4 := Lib.hid (H3.out.1.below hb4)
  have B4 := Lib.hid (H3.out.2.1.trans (hb4.mono H3.out.2.1.size))
  clear a4 e4 f4 hb4 hcf4 hin
  unfold Sv.val stA
  go_wp2_with fail
  have hal5 : Below w4.heap.size w4 (w4.alloc (.cells #[.int .i64 1, .int .i64 2, .int .i64 3] 3)) := (Below.refl _ _).alloc (Nat.le_refl _) _
  refine (Hin.out _ hal5 ((show Rd (w4.alloc (.cells #[.int .i64 1, .int .i64 2, .int .i64 3] 3)) (w4.heap.size ≤ ·) 1 (some ⟨w4.heap.size, 0, none⟩) 3 [.int .i64 1, .int .i64 2, .int .i64 3] from Rd.lit rfl).any)).mono ?_
  rintro e w5 ⟨rfl, hb5⟩
  have hb45 := hal5.trans (hb5.mono (by simp))
  have H5 := Lib.hid (H4.out.below hb45)
  have B5 := Lib.hid (B4.out.trans (hb45.mono B4.out.size))
  clear hal5 hb5 hb45
  have hsv := saves_any w5 H5.out
  rw [H3.out.2.2.2.2.1] at hsv
  have Hsv := Lib.hid hsv
  clear hsv
  go_wp2_with fail
  refine Hsv.out.mono ?_
  rintro e w6 ⟨rfl, hw⟩
  have hw2 := hw.symm
  clear hw
  subst hw2
  go_wp2_with fail
  obtain ⟨W6, hW6⟩ : ∃ W6, W6 = w5.alloc (.cells #[.int .i64 1] 3) := ⟨_, rfl⟩
  have hal6 : Below w5.heap.size w5 W6 := by subst hW6; exact (Below.refl _ _).alloc (Nat.le_refl _) _
  have x6 := H5.out.below hal6
  have b6 := B5.out.trans (hal6.mono B5.out.size)
  have rl6 : Rd W6 (w5.heap.size ≤ ·) 1 (some ⟨w5.heap.size, 0, none⟩) 1 (ii [1]) := by subst hW6; exact (show Rd (w5.alloc (.cells #[.int .i64 1] 3)) (w5.heap.size ≤ ·) 1 (some ⟨w5.heap.size, 0, none⟩) 1 [.int .i64 1] from Rd.lit rfl)
  have hs6 : Sv.At ⟨4, 2, 0, 0, none, 0, 0, [], some ⟨w5.heap.size, 0, none⟩, 1, 1, [1], none, 0, 0, []⟩ W6 (fun b => ¬ L' b ∧ b ≠ t0 ∧ b ≠ t1 ∧ b ≠ k) :=
    ⟨Rd.none_, (fun y hy => by cases hy), rl6.mono (fun b hb => ⟨fun hL => by have := H5.out.dx.lt b hL; have h9 : w5.heap.size ≤ b := hb; omega, fun e => by have := H5.out.b0.lt; have h9 : w5.heap.size ≤ b := hb; omega, fun e => by have := H5.out.b1.lt; have h9 : w5.heap.size ≤ b := hb; omega, fun e => by have := H5.out.kb.lt; have h9 : w5.heap.size ≤ b := hb; omega⟩), Rd.none_, ⟨Nat.le_refl _, Nat.zero_le _⟩, ⟨Nat.le_refl _, by unfold maxLen; dsimp only; omega⟩, ⟨Nat.le_refl _, Nat.zero_le _⟩⟩
  have hf6 : Sv.Fit ⟨4, 2, 0, 0, none, 0, 0, [], some ⟨w5.heap.size, 0, none⟩, 1, 1, [1], none, 0, 0, []⟩ := ⟨⟨by unfold I64; dsimp only; omega, by unfold I64; dsimp only; omega, by unfold I64; dsimp only; omega, by unfold I64; dsimp only; omega⟩, (fun y hy => by cases hy), ⟨Nat.zero_le _, by dsimp only; omega, Nat.zero_le _⟩⟩
  have hst6 : Sv.st ⟨4, 2, 0, 0, none, 0, 0, [], some ⟨w5.heap.size, 0, none⟩, 1, 1, [1], none, 0, 0, []⟩ = ⟨4, 2, 0, 0, [], [1], []⟩ := rfl
  have hsave := save_any W6 x6 ⟨4, 2, 0, 0, none, 0, 0, [], some ⟨w5.heap.size, 0, none⟩, 1, 1, [1], none, 0, 0, []⟩ hs6 hf6 (Htb.out _ b6) (Hvb.out _ b6) (by rw [H3.out.2.2.2.2.1]; omega) (by rw [H3.out.2.2.2.1.calm.q]; exact Nat.zero_le _)
  rw [hst6] at hsave
  unfold Sv.val stA at hsave
  have hlen := stL_len ((K1.n : Nat) + 1 : Int) ⟨4, 2, 0, 0, [], [1], []⟩ 0 (by decide) (by decide) (by decide) (fun e he => by cases he) (by omega)
  have hlen2 : (stL ((K1.n : Nat) + 1 : Int) ⟨4, 2, 0, 0, [], [1], []⟩).length ≤ 322 := by simpa using hlen
  have hms : (⟨4, 2, 0, 0, [], [1], []⟩ : St).may = true := by decide
  have hsi := H3.out.2.2.2.1.save_ (s := ⟨4, 2, 0, 0, [], [1], []⟩) (by omega) (fun _ => ⟨by omega, by decide⟩) (by rw [H3.out.2.2.2.2.1]; omega)
  have hwh := H3.out.2.2.2.1.whole_ (!K1.on) (by omega)
  obtain ⟨K2, D2, hsv2, hi2, hn2, hnow2⟩ : ∃ K2 D2, K1.save D1 ⟨4, 2, 0, 0, [], [1], []⟩ = (K2, D2, 0) ∧ KInv 2000 K2 D2 ∧ K2.n = 2 ∧ K2.now = ⟨4, 2, 0, 0, [], [1], []⟩ := by
    rcases hsi with ⟨h1, _⟩ | ⟨_, h1, _⟩ | ⟨_, _, _, h1⟩ | ⟨_, _, K', D', h1, h2, h3, h4, _⟩ | ⟨_, _, h1, _⟩
    · rw [H3.out.2.2.2.2.2.1] at h1
      have := congrArg St.tm h1
      exact absurd this (by decide)
    · rw [hms] at h1; cases h1
    · omega
    · exact ⟨K', D', h1, h2, by rw [h3, H3.out.2.2.2.2.1], h4⟩
    · exact absurd H3.out.2.2.2.2.2.2.1 h1
  rw [hsv2] at hsave
  have Hsave := Lib.hid hsave
  have I2 := Lib.hid (And.intro hi2 (And.intro hn2 hnow2))
  have B6 := Lib.hid b6
  rw [← hW6]
  clear hW6 hal6 x6 b6 rl6 hs6 hf6 hst6 hsave hlen hlen2 hms hsi hwh hsv2 hi2 hn2 hnow2
  refine Hsave.out.mono ?_
  intro e w7 hp
  obtain ⟨rfl, z2, L2, kx2, hl2, hk2⟩ := hp
  have hle6 := B6.out.size
  have lo2 : ∀ b, L2 b → w.heap.size ≤ b := fun b hb => (hl2 b hb).elim (H3.out.2.2.1 b) fun h => by omega
  have b7 : Below w.heap.size w w7 := B6.out.trans (hk2.below (B := w.heap.size) (fun b hb => by
    have h9 := H3.out.2.2.2.2.2.2.2
    rcases hb with h | h | h | h
    · exact H3.out.2.2.1 b h
    · omega
    · omega
    · omega) hle6)
  have H7 := Lib.hid (And.intro kx2 (And.intro lo2 b7))
  clear kx2 hl2 hk2 lo2 b7 hle6
  have e0 : errD (K2, D2, (0 : Int)).2.2 = .nilIface := rfl
  rw [e0]
  clear e0
  go_wp2_with fail
  have hb8 : Below w7.heap.size w7 (w7.alloc (.cells #[.int .i64 7] 3)) := (Below.refl _ _).alloc (Nat.le_refl _) _
  have hb08 := H7.out.2.2.trans (hb8.mono H7.out.2.2.size)
  have rl8 : Rd (w7.alloc (.cells #[.int .i64 7] 3)) (fun b => ¬ L2 b) 1 (some ⟨w7.heap.size, 0, none⟩) 1 (ii [7]) := (show Rd (w7.alloc (.cells #[.int .i64 7] 3)) (w7.heap.size ≤ ·) 1 (some ⟨w7.heap.size, 0, none⟩) 1 [.int .i64 7] from Rd.lit rfl).mono fun b hb hL => by have := H7.out.1.dx.lt b hL; have h9 : w7.heap.size ≤ b := hb; omega
  refine (kopen_any (some ⟨w7.heap.size, 0, none⟩) 1 1 [7] _ (H7.out.1.dx.below hb8) rl8 ⟨by omega, by unfold maxLen; omega⟩ (by rfl) (by omega) I2.out.1.calm.off (by rw [I2.out.1.calm.q]; exact Nat.zero_le _) (Htb.out _ hb08) (Hvb.out _ hb08) (fb := 0) (by simp)).mono ?_
  intro e w9 hp
  obtain ⟨k', t0', t1', z3, rfl, kx3, -, -, -, hb9⟩ := hp.again I2.out.1 (by rw [I2.out.2.1]; omega)
  have b9 := hb08.trans (hb9.mono hb08.size)
  have hst3 : z3.st = ⟨4, 2, 0, 0, [], [1], []⟩ := kx3.st.trans I2.out.2.2
  have hlm3 : lmay z3.b z3.t (z3.L.map en) = true := by
    obtain ⟨_, _, h3, h4, h5, _⟩ := st_iff.1 hst3
    have k3 : z3.b = 0 := h3
    have k4 : z3.t = 0 := h4
    have k5 : z3.L.map en = [] := h5
    rw [k3, k4, k5]
    rfl
  have H9 := Lib.hid (And.intro kx3 (And.intro hlm3 b9))
  clear kx3 hlm3 b9 hst3 hb9 hp hb8 hb08 rl8
  have hsv9 := saves_any w9 H9.out.1
  rw [I2.out.2.1] at hsv9
  have Hsv9 := Lib.hid hsv9
  clear hsv9
  go_wp2_with fail
  refine Hsv9.out.mono ?_
  rintro e w10 ⟨rfl, hw⟩
  have hw2 := hw.symm
  clear hw
  subst hw2
  have hld11 := load_any w9 H9.out.1 H9.out.2.1
  rw [I2.out.2.2] at hld11
  have Hld11 := Lib.hid hld11
  clear hld11
  go_wp2_with fail
  refine Hld11.out.mono ?_
  rintro e w11 ⟨s11, rfl, a11, e11, f11, hb11⟩
  have H11 := Lib.hid (And.intro (H9.out.1.below hb11) (And.intro H9.out.2.1 (H9.out.2.2.trans (hb11.mono H9.out.2.2.size))))
  unfold Sv.val stA
  have t11 : s11.tm = 4 := (st_iff.1 e11).1
  rw [t11]
  clear a11 e11 f11 hb11 t11
  have hld12 := load_any w11 H11.out.1 H11.out.2.1
  rw [I2.out.2.2] at hld12
  have Hld12 := Lib.hid hld12
  clear hld12
  go_wp2_with fail
  refine Hld12.out.mono ?_
  rintro e w12 ⟨s12, rfl, a12, e12, f12, hb12⟩
  have H12 := Lib.hid (And.intro (H11.out.1.below hb12) (And.intro H11.out.2.1 (H11.out.2.2.trans (hb12.mono H11.out.2.2.size))))
  unfold Sv.val stA
  have t12 : s12.vt = 2 := (st_iff.1 e12).2.1
  rw [t12]
  clear a12 e12 f12 hb12 t12
  have hld13 := load_any w12 H12.out.1 H12.out.2.1
  rw [I2.out.2.2] at hld13
  have Hld13 := Lib.hid hld13
  clear hld13
  go_wp2_with fail
  refine Hld13.out.mono ?_
  rintro e w13 ⟨s13, rfl, a13, e13, f13, hb13⟩
  have H13 := Lib.hid (And.intro (H12.out.1.below hb13) (And.intro H12.out.2.1 (H12.out.2.2.trans (hb13.mono H12.out.2.2.size))))
  unfold Sv.val stA
  have t13 : s13.cf = [1] := (st_iff.1 e13).2.2.2.2.2.1
  have hin13 := fun W (hb : Below w13.heap.size w13 W) (h : Rd W T 1 (some ⟨w13.heap.size, 0, none⟩) 1 (ii [1])) => ints_any s13.C s13.nc s13.cc (some ⟨w13.heap.size, 0, none⟩) 1 1 s13.cf [1] W (a13.cf.below hb) h (by have := f13.z.2.1; omega)
  rw [decide_eq_true t13] at hin13
  have Hin13 := Lib.hid hin13
  clear a13 e13 f13 hb13 t13 hin13
  go_wp2_with fail
  have hal14 : Below w13.heap.size w13 (w13.alloc (.cells #[.int .i64 1] 3)) := (Below.refl _ _).alloc (Nat.le_refl _) _
  refine (Hin13.out _ hal14 ((show Rd (w13.alloc (.cells #[.int .i64 1] 3)) (w13.heap.size ≤ ·) 1 (some ⟨w13.heap.size, 0, none⟩) 1 [.int .i64 1] from Rd.lit rfl).any)).mono ?_
  rintro e w14 ⟨rfl, hb14⟩
  have B14 := Lib.hid (H13.out.2.2.trans ((hal14.trans (hb14.mono (by simp))).mono H13.out.2.2.size))
  clear hal14 hb14
  go_wp2_with fail
  go_ret
  exact ⟨rfl, B14.out⟩
end Go.Proofs.YtlecglmiigdjlaaGreatDoor
namespace Go.Proofs.YtlecglmiigdjlaaGreatDoor
open Go.RowKit
set_option maxRecDepth 100000
set_option linter.unusedVariables false
set_option linter.unusedSimpArgs false
def longS (s : Sv) : Bool := longB s.L || decide (3000 < s.ns) || decide (100 < s.nc)
set_option maxHeartbeats 1600000 in
theorem long_any (s : Sv) (w : World) {ok : Nat → Prop} (h : s.At w ok) (hs : ∀ x ∈ s.L, x.n ≤ 140737488351232) (hn : s.n ≤ 9223372036854775807) (hn2 : s.ns ≤ 9223372036854775807) (hn3 : s.nc ≤ 9223372036854775807) :
    Calls Tryz.prog 15 #[s.val] w (BoolPost w (longS s)) := by
  obtain ⟨W0, hW0⟩ : ∃ W0, W0 = w.alloc (.cells s.cells 50) := ⟨_, rfl⟩
  have b0 : Bx W0 w.heap.size s.cells := by subst hW0; exact Bx.new _ _ _ rfl
  have hbe : Below w.heap.size w W0 := by subst hW0; exact (Below.refl _ _).alloc (Nat.le_refl _) _
  have hlo := longs_any s.A s.n s.c s.L W0 (h.l.below hbe) hs hn
  have F : ∀ W, Below W0.heap.size W0 W → W.cell? ⟨w.heap.size, 4, none⟩ = some (.slice s.A s.n s.c) ∧ W.cell? ⟨w.heap.size, 5, none⟩ = some (.slice s.C s.nc s.cc) ∧ W.cell? ⟨w.heap.size, 6, none⟩ = some (.slice s.S s.ns s.cs) := fun W hb => ⟨(b0.below hb).c 4, (b0.below hb).c 5, (b0.below hb).c 6⟩
  obtain ⟨c4, c5, c6⟩ := F W0 (Below.refl _ _)
  obtain ⟨q, hq⟩ : ∃ q, longB s.L = q := ⟨_, rfl⟩
  rw [hq] at hlo
  have hS : longS s = (q || decide (3000 < s.ns) || decide (100 < s.nc)) := by unfold longS; rw [hq]
  rw [hS]
  have HW := Lib.hid hW0
  have B := Lib.hid hbe
  have Hlo := Lib.hid hlo
  have FF := Lib.hid F
  clear hW0 b0 hbe hlo F hq hS h hs
  unfold Sv.val stA
  go_enter Tryz.func15, Tryz.ntmps15
  go_upto_region 1 with (fail)
  have HW' := HW.out
  unfold Sv.cells at HW'
  rw [← HW']
  clear HW'
  go_wp2_with fail
  refine Hlo.out.mono ?_
  rintro e w1 ⟨rfl, hb1⟩
  have K := Lib.hid hb1
  clear hb1 c4 c5 c6
  obtain ⟨c4, c5, c6⟩ := FF.out w1 K.out
  have HB := Lib.hid (B.out.trans (K.out.mono B.out.size))
  cases q
  · by_cases h1 : 3000 < s.ns
    · have d1 : decide ((3000 : Int) < (s.ns : Nat)) = true := decide_eq_true (by omega)
      have d2 : decide (3000 < s.ns) = true := decide_eq_true h1
      go_wp2_with fail
      go_ret
      exact ⟨ret_bool (by simp [h1]), HB.out⟩
    · have d1 : decide ((3000 : Int) < (s.ns : Nat)) = false := decide_eq_false (by omega)
      have d2 : decide (3000 < s.ns) = false := decide_eq_false h1
      by_cases h2 : 100 < s.nc
      · have d3 : decide ((100 : Int) < (s.nc : Nat)) = true := decide_eq_true (by omega)
        have d4 : decide (100 < s.nc) = true := decide_eq_true h2
        go_wp2_with fail
        go_ret
        exact ⟨ret_bool (by simp [h2]), HB.out⟩
      · have d3 : decide ((100 : Int) < (s.nc : Nat)) = false := decide_eq_false (by omega)
        have d4 : decide (100 < s.nc) = false := decide_eq_false h2
        go_wp2_with fail
        go_ret
        exact ⟨ret_bool (by simp [h1, h2]), HB.out⟩
  · go_wp2_with fail
    go_ret
    exact ⟨ret_bool (by simp), HB.out⟩
end Go.Proofs.YtlecglmiigdjlaaGreatDoor
namespace Go.Proofs.YtlecglmiigdjlaaGreatDoor
open Go.RowKit
set_option maxRecDepth 100000
set_option linter.unusedVariables false
set_option linter.unusedSimpArgs false
theorem Kept.under2 {L : Nat → Prop} {B : Nat} {W W' : World} (h : Kept L W W') (hl : ∀ b, L b → B ≤ b) (hz : B ≤ W.heap.size) : Below B W W' := h.below hl hz
theorem Bx.set7z {W : World} {k : Nat} {a0 a1 a2 a3 a4 a5 a6 : Value} (h : Bx W k #[a0, a1, a2, a3, a4, a5, a6]) (x0 x1 x2 x3 x4 x5 x6 : Value) : Bx (((((((W.setCell ⟨k, 0, none⟩ x0).setCell ⟨k, 1, none⟩ x1).setCell ⟨k, 2, none⟩ x2).setCell ⟨k, 3, none⟩ x3).setCell ⟨k, 4, none⟩ x4).setCell ⟨k, 5, none⟩ x5).setCell ⟨k, 6, none⟩ x6) k #[x0, x1, x2, x3, x4, x5, x6] := by
  have h0 : Bx _ k #[x0, a1, a2, a3, a4, a5, a6] := h.set 0 x0
  have h1 : Bx _ k #[x0, x1, a2, a3, a4, a5, a6] := h0.set 1 x1
  have h2 : Bx _ k #[x0, x1, x2, a3, a4, a5, a6] := h1.set 2 x2
  have h3 : Bx _ k #[x0, x1, x2, x3, a4, a5, a6] := h2.set 3 x3
  have h4 : Bx _ k #[x0, x1, x2, x3, x4, a5, a6] := h3.set 4 x4
  have h5 : Bx _ k #[x0, x1, x2, x3, x4, x5, a6] := h4.set 5 x5
  exact h5.set 6 x6
theorem keep7z {W : World} {k b : Nat} (hb : b ≠ k) (x0 x1 x2 x3 x4 x5 x6 : Value) : (((((((W.setCell ⟨k, 0, none⟩ x0).setCell ⟨k, 1, none⟩ x1).setCell ⟨k, 2, none⟩ x2).setCell ⟨k, 3, none⟩ x3).setCell ⟨k, 4, none⟩ x4).setCell ⟨k, 5, none⟩ x5).setCell ⟨k, 6, none⟩ x6).heap[b]? = W.heap[b]? := by
  iterate 7 refine (Below.heap_setCell _ _ _ b (by exact hb)).trans ?_
  rfl
theorem size7z {W : World} {k : Nat} (x0 x1 x2 x3 x4 x5 x6 : Value) : (((((((W.setCell ⟨k, 0, none⟩ x0).setCell ⟨k, 1, none⟩ x1).setCell ⟨k, 2, none⟩ x2).setCell ⟨k, 3, none⟩ x3).setCell ⟨k, 4, none⟩ x4).setCell ⟨k, 5, none⟩ x5).setCell ⟨k, 6, none⟩ x6).heap.size = W.heap.size := by simp [World.setCell]
section
variable {w W W1 w' : World} {g nb sz kb t0 t1 fb : Nat} {K : Kp} {D : Dk} {y z s : Sv} {L : Nat → Prop} {e : Ending}
/-- Another block is someone else's. -/
theorem KX.refb (h : KX fb W L kb g t0 t1 K z D sz) (hb : Below W.heap.size W W1) (hz : W.heap.size < W1.heap.size) : KX W.heap.size W1 L kb g t0 t1 K z D sz :=
  have h' := h.below hb
  ⟨h'.dx, h'.b0, h'.b1, h'.o0, h'.o1, h'.kb, (h.at_.lt.below hb).mono fun b hx => ⟨hx.1.1, hx.1.2.1, hx.1.2.2.1, hx.1.2.2.2.1, by omega⟩, h'.st, h'.fit, h'.n0, h'.n1, h'.nk, h'.d01, h'.k0, h'.k1, hz⟩
theorem KX.put (h : KX nb W L kb g t0 t1 K z D sz) (hl : ¬ L nb) (h0 : nb ≠ t0) (h1 : nb ≠ t1) (hk : nb ≠ kb) (x0 x1 x2 x3 x4 x5 x6 : Value) :
    KX nb (((((((W.setCell ⟨nb, 0, none⟩ x0).setCell ⟨nb, 1, none⟩ x1).setCell ⟨nb, 2, none⟩ x2).setCell ⟨nb, 3, none⟩ x3).setCell ⟨nb, 4, none⟩ x4).setCell ⟨nb, 5, none⟩ x5).setCell ⟨nb, 6, none⟩ x6) L kb g t0 t1 K z D sz := by
  have hq : ∀ b, b ≠ nb → (((((((W.setCell ⟨nb, 0, none⟩ x0).setCell ⟨nb, 1, none⟩ x1).setCell ⟨nb, 2, none⟩ x2).setCell ⟨nb, 3, none⟩ x3).setCell ⟨nb, 4, none⟩ x4).setCell ⟨nb, 5, none⟩ x5).setCell ⟨nb, 6, none⟩ x6).heap[b]? = W.heap[b]? := fun b hb => keep7z hb _ _ _ _ _ _ _
  exact ⟨h.dx.keep (fun b hb => hq b (fun e => hl (e ▸ hb))) (by rw [size7z]; exact Nat.le_refl _), h.b0.keep (hq _ h0.symm), h.b1.keep (hq _ h1.symm), h.o0, h.o1, h.kb.keep (hq _ hk.symm), h.at_.keep (fun b hb _ => hq b hb.2.2.2.2), h.st, h.fit, h.n0, h.n1, h.nk, h.d01, h.k0, h.k1, by rw [size7z]; exact h.flt⟩
/-- A keeper somewhere above what came in, and the block of what should be kept. -/
structure SavI (w W : World) (g nb sz kb : Nat) (K : Kp) (D : Dk) (y : Sv) : Prop where
  ex : ∃ L t0 t1 z, KX nb W L kb g t0 t1 K z D sz ∧ (∀ b, L b → w.heap.size ≤ b) ∧ w.heap.size ≤ t0 ∧ w.heap.size ≤ t1 ∧ ¬ L nb ∧ nb ≠ t0 ∧ nb ≠ t1
  inv : KInv sz K D
  n1 : 1 ≤ K.n
  k0 : w.heap.size ≤ kb
  nk : nb ≠ kb
  bx : Bx W nb y.cells
  b0 : w.heap.size ≤ nb
  y1 : y.At w T
  y2 : y.Fit
  be : Below w.heap.size w W
theorem SavI.below (h : SavI w W g nb sz kb K D y) (hb : Below W.heap.size W W1) : SavI w W1 g nb sz kb K D y := by
  obtain ⟨L, t0, t1, z, h1, h2⟩ := h.ex
  exact ⟨⟨L, t0, t1, z, h1.below hb, h2⟩, h.inv, h.n1, h.k0, h.nk, h.bx.below hb, h.b0, h.y1, h.y2, h.be.trans (hb.mono h.be.size)⟩
theorem KInv.cur (h : KInv sz K D) (hn : 1 ≤ K.n) : K.now.may = true ∧ K.now.sn.length ≤ 1048576 := by
  obtain ⟨rc, ro, _, _, h1, _⟩ := h.ar
  rcases h1 with ⟨h1, _⟩ | ⟨_, h1, h2, _⟩
  · omega
  · exact ⟨h1, h2⟩
theorem SavI.start (hx : KX fb W L kb g t0 t1 K z D sz) (hi : KInv sz K D) (hn : 1 ≤ K.n) (hl : ∀ b, L b → w.heap.size ≤ b) (hk : w.heap.size ≤ kb) (h0 : w.heap.size ≤ t0) (h1 : w.heap.size ≤ t1) (hbe : Below w.heap.size w W) (y1 : y.At w T) (y2 : y.Fit) :
    SavI w (W.alloc (.cells y.cells 50)) g W.heap.size sz kb K D y := by
  have hb : Below W.heap.size W (W.alloc (.cells y.cells 50)) := (Below.refl _ _).alloc (Nat.le_refl _) _
  have q1 := hx.dx.lt
  have q2 := hx.b0.lt
  have q3 := hx.b1.lt
  have q4 := hx.kb.lt
  exact ⟨⟨L, t0, t1, z, hx.refb hb (by simp), hl, h0, h1, fun h => by have := q1 _ h; omega, by omega, by omega⟩, hi, hn, hk, by omega, Bx.new _ _ _ rfl, hbe.size, y1, y2, hbe.trans (hb.mono hbe.size)⟩
theorem SavI.put (h : SavI w W g nb sz kb K D y) (s1 : s.At w T) (s2 : s.Fit) :
    SavI w (((((((W.setCell ⟨nb, 0, none⟩ (.int .i64 s.tm)).setCell ⟨nb, 1, none⟩ (.int .i64 s.vt)).setCell ⟨nb, 2, none⟩ (.int .i64 s.b)).setCell ⟨nb, 3, none⟩ (.int .i64 s.t)).setCell ⟨nb, 4, none⟩ (.slice s.A s.n s.c)).setCell ⟨nb, 5, none⟩ (.slice s.C s.nc s.cc)).setCell ⟨nb, 6, none⟩ (.slice s.S s.ns s.cs)) g nb sz kb K D s := by
  obtain ⟨L, t0, t1, z, h1, h2, h3, h4, h5, h6, h7⟩ := h.ex
  have hbx := h.bx
  unfold Sv.cells at hbx
  refine ⟨⟨L, t0, t1, z, h1.put h5 h6 h7 h.nk _ _ _ _ _ _ _, h2, h3, h4, h5, h6, h7⟩, h.inv, h.n1, h.k0, h.nk, hbx.set7z _ _ _ _ _ _ _, h.b0, s1, s2, ?_⟩
  have hb0 := h.b0
  exact (((((((h.be.setCell (p := ⟨nb, 0, none⟩) hb0 _).setCell (p := ⟨nb, 1, none⟩) hb0 _).setCell (p := ⟨nb, 2, none⟩) hb0 _).setCell (p := ⟨nb, 3, none⟩) hb0 _).setCell (p := ⟨nb, 4, none⟩) hb0 _).setCell (p := ⟨nb, 5, none⟩) hb0 _).setCell (p := ⟨nb, 6, none⟩) hb0 _)
/-- The outcome of a save. -/
def SvO (sz : Nat) (K : Kp) (s : St) (c : Int) (K' : Kp) : Prop :=
  (c = 0 ∧ s = K.now ∧ K' = K) ∨ (c = 1 ∧ s ≠ K.now ∧ s.may = false ∧ K' = K) ∨ (c = 10 ∧ s ≠ K.now ∧ s.may = true ∧ K' = K ∧ ((sz / 2 : Nat) : Int) - 5 < ((stL ((K.n : Nat) + 1 : Int) s).length : Int)) ∨ (c = 0 ∧ s ≠ K.now ∧ s.may = true ∧ K'.n = K.n + 1 ∧ K'.now = s)
theorem SavI.next (h : SavI w W g nb sz kb K D y) {L : Nat → Prop} {t0 t1 : Nat} {z' : Sv} {K' : Kp} {D' : Dk} (hb : Below W.heap.size W W1) (hx : KX nb W1 L kb g t0 t1 K z D sz) (h2 : ∀ b, L b → w.heap.size ≤ b) (h3 : w.heap.size ≤ t0) (h4 : w.heap.size ≤ t1) (h5 : ¬ L nb) (h6 : nb ≠ t0) (h7 : nb ≠ t1)
    (hk : KAft nb W1 L kb g t0 t1 K' z' D' sz w') (hi : KInv sz K' D') (hn : 1 ≤ K'.n) : SavI w w' g nb sz kb K' D' y := by
  obtain ⟨L2, k1, k2, k3⟩ := hk
  have hz := h.be.size
  have hz1 := hb.size
  have hlt := (h.bx.below hb).lt
  have hfar : ¬ (fun b => L b ∨ b = t0 ∨ b = t1 ∨ b = kb) nb := fun hu => by
    rcases hu with hu | hu | hu | hu
    · exact h5 hu
    · exact h6 hu
    · exact h7 hu
    · exact h.nk hu
  have hb1 := h.be.trans (hb.mono h.be.size)
  refine ⟨⟨L2, t0, t1, z', k1, fun b hb' => (k2 b hb').elim (h2 b) fun h9 => by omega, h3, h4, fun hu => (k2 nb hu).elim h5 fun h9 => by omega, h6, h7⟩, hi, hn, h.k0, h.nk, k3.bx (h.bx.below hb) hfar, h.b0, h.y1, h.y2, hb1.trans (k3.below (B := w.heap.size) (fun b hu => ?_) hb1.size)⟩
  rcases hu with hu | hu | hu | hu
  · exact h2 b hu
  · omega
  · omega
  · have := h.k0; omega
/-- Whatever is saved, where no power goes. -/
theorem SavI.save (h : SavI w W g nb sz kb K D y) (s : Sv) (hb : Below W.heap.size W W1) (hs : s.At W1 (W.heap.size ≤ ·)) (hf : s.Fit) (htab : TabW W1) (hev : EvW W1 W1.heap.size) (hsz : 20 ≤ sz) (hn : K.n ≤ 1000) (ha : D.armed = 0)
    (hbl : s.st.may = true → (stL ((K.n : Nat) + 1 : Int) s.st).length ≤ 1048576 ∧ s.st.sn.length ≤ 1048576) :
    Calls Tryz.prog 7 #[.pointer (some ⟨kb, 0, none⟩), s.val] W1 fun e w' => ∃ c K' D', e = .returned (errD c) ∧ SvO sz K s.st c K' ∧ D'.armed = 0 ∧ SavI w w' g nb sz kb K' D' y := by
  obtain ⟨L, t0, t1, z, h1, h2, h3, h4, h5, h6, h7⟩ := h.ex
  have hx := h1.below hb
  have hs' : s.At W1 (fun b => ¬ L b ∧ b ≠ t0 ∧ b ≠ t1 ∧ b ≠ kb) := hs.mono fun b hx => ⟨fun hl => by have := h1.dx.lt b hl; omega, fun e => by have := h1.b0.lt; omega, fun e => by have := h1.b1.lt; omega, fun e => by have := h1.kb.lt; omega⟩
  have hw := h.inv.whole_ (!K.on) hsz
  refine (save_any W1 hx s hs' hf htab hev (by omega) (by rw [h.inv.calm.q]; exact Nat.zero_le _)).mono ?_
  intro e w' hp
  obtain ⟨rfl, z', hk⟩ := hp
  rcases h.inv.save_ (s := s.st) hsz hbl (by omega) with ⟨h8, h9⟩ | ⟨h8, h10, h9⟩ | ⟨h8, h10, h9, h11⟩ | ⟨h8, h10, K', D', h9, h11, h12, h13, h14⟩ | ⟨_, _, h9, _⟩
  · rw [h9] at hk ⊢
    exact ⟨0, K, D, rfl, .inl ⟨rfl, h8, rfl⟩, ha, h.next hb hx h2 h3 h4 h5 h6 h7 hk h.inv h.n1⟩
  · rw [h9] at hk ⊢
    exact ⟨1, K, D, rfl, .inr (.inl ⟨rfl, h8, h10, rfl⟩), ha, h.next hb hx h2 h3 h4 h5 h6 h7 hk h.inv h.n1⟩
  · rw [h9] at hk ⊢
    exact ⟨10, K, D, rfl, .inr (.inr (.inl ⟨rfl, h8, h10, rfl, by omega⟩)), ha, h.next hb hx h2 h3 h4 h5 h6 h7 hk h.inv h.n1⟩
  · rw [h9] at hk ⊢
    exact ⟨0, K', D', rfl, .inr (.inr (.inr ⟨rfl, h8, h10, h12, h13⟩)), h14 ha, h.next hb hx h2 h3 h4 h5 h6 h7 hk h11 (by omega)⟩
  · exact absurd ha h9
/-- It is opened again. -/
theorem SavI.again (h : SavI w W g nb sz kb K D y) (A : Option Addr) (n c : Nat) (cf : List Int) (hb : Below W.heap.size W W1) (hr : Rd W1 (W.heap.size ≤ ·) 1 A n (ii cf)) (hn : n ≤ c ∧ c ≤ maxLen) (hm : cmay cf = true) (htab : TabW W1) (hev : EvW W1 W1.heap.size) (hsz : 20 ≤ sz) :
    Calls Tryz.prog 12 #[.pointer (some ⟨g, 0, none⟩), .slice A n c] W1 fun e w' => ∃ k', e = .returned (.tuple #[.pointer (some ⟨k', 0, none⟩), .nilIface]) ∧ SavI w w' g nb sz kb K D y ∧ SavI w w' g nb sz k' K D y := by
  obtain ⟨L, t0, t1, z, h1, h2, h3, h4, h5, h6, h7⟩ := h.ex
  have hx := h1.below hb
  have hr' : Rd W1 (fun b => ¬ L b) 1 A n (ii cf) := hr.mono fun b hb' hl => by have := h1.dx.lt b hl; have h9 : W.heap.size ≤ b := hb'; omega
  have hlt := h.bx.lt
  have hz1 := hb.size
  refine (kopen_any (fb := nb) A n c cf W1 hx.dx hr' hn hm hsz h.inv.calm.off (by rw [h.inv.calm.q]; exact Nat.zero_le _) htab hev (by omega)).mono ?_
  intro e w' hp
  obtain ⟨k', t0', t1', z', rfl, hx', hk0, ht0, ht1, hb'⟩ := hp.again h.inv h.n1
  have hb2 : Below W.heap.size W w' := hb.trans (hb'.mono hz1)
  have hz := h.be.size
  have hi := h.below hb2
  exact ⟨k', rfl, hi, ⟨⟨L, t0', t1', z', hx', h2, by omega, by omega, h5, by omega, by omega⟩, h.inv, h.n1, by omega, by omega, hi.bx, h.b0, h.y1, h.y2, hi.be⟩⟩
theorem SavI.load (h : SavI w W g nb sz kb K D y) : Calls Tryz.prog 9 #[.pointer (some ⟨kb, 0, none⟩)] W (LoadPost W K.now) := by
  obtain ⟨L, t0, t1, z, h1, -⟩ := h.ex
  refine load_any W h1 ?_
  have hm := (h.inv.cur h.n1).1
  rw [← h1.st] at hm
  exact (St.may_iff hm).1
theorem SavI.saves (h : SavI w W g nb sz kb K D y) : Calls Tryz.prog 8 #[.pointer (some ⟨kb, 0, none⟩)] W (fun e w' => e = .returned (.int .i64 (K.n : Nat)) ∧ w' = W) := by
  obtain ⟨L, t0, t1, z, h1, -⟩ := h.ex
  exact saves_any W h1
theorem longS_no {s : Sv} (h : longS s = false) : (s.L.length ≤ 200 ∧ ∀ x ∈ s.L, x.n ≤ 25663) ∧ s.ns ≤ 3000 ∧ s.nc ≤ 100 := by
  unfold longS at h
  simp only [Bool.or_eq_false_iff, decide_eq_false_iff_not] at h
  exact ⟨longB_no h.1.1, by omega, by omega⟩
theorem Sv.At.fit_long {s : Sv} {w : World} {ok : Nat → Prop} (h : s.At w ok) (hi : (I64 s.tm ∧ I64 s.vt ∧ I64 s.b ∧ I64 s.t) ∧ ∀ y ∈ s.L, W64 y) (hl : longS s = false) : s.Fit := by
  obtain ⟨⟨h1, h2⟩, h3, h4⟩ := longS_no hl
  have hn : s.L.length = s.n := h.l.flen ecell_len (by omega)
  exact ⟨hi.1, fun y hy => ⟨hi.2 y hy, by have := h2 y hy; omega⟩, ⟨by omega, by omega, by omega⟩⟩
theorem Sv.At.len_long {s : Sv} {w : World} {ok : Nat → Prop} (h : s.At w ok) (hl : longS s = false) (n : Int) (hm : s.st.may = true) : (stL n s.st).length ≤ 1048576 ∧ s.st.sn.length ≤ 1048576 := by
  obtain ⟨⟨h1, h2⟩, h3, h4⟩ := longS_no hl
  obtain ⟨_, k1, _, _, k2, _⟩ := St.may_iff hm
  have hs : s.st.sn.length = s.ns := h.sn.blen
  have hc := (cmay_small k1).2.1
  have hll : s.st.l.length = s.L.length := by unfold Sv.st; simp
  have := stL_len n s.st 4096 (by omega) (by omega) (by omega) (fun e he => (k2 e he).2.2.2.2.2.2) (by omega)
  exact ⟨by omega, by omega⟩
end
end Go.Proofs.YtlecglmiigdjlaaGreatDoor
namespace Go.Proofs.YtlecglmiigdjlaaGreatDoor
open Go.RowKit Go.Extern.Stop Go.Stop Go.Extern
set_option linter.unusedVariables false
set_option linter.unusedSimpArgs false
/-- errors.As(nil, target). -/
theorem as_nil (t : Value) (w : World) :
    Calls Tryz.prog 26 #[.nilIface, t] w fun e w' => e = .returned (.bool false) ∧ w' = w := by
  go_enter Tryz.func26, Tryz.ntmps26
  go_wp2
  go_ret
  exact ⟨rfl, rfl⟩
theorem Ar.valueOfP (t : Addr) (w : World) : (ReflectliteValue.unpack (.iface 71 (.pointer (some t)))).run Tryz.prog w
    = .ok (.agg #[.pointer (some ⟨6, 71, none⟩), .pointer (some ⟨w.heap.size, 0, none⟩), .int .u64 150]) (w.alloc (.cells #[.pointer (some t)] 71)) := by kernel_rfl
theorem Ar.typeP (a : Addr) (w : World) : (ReflectliteValue.methodAny (ReflectliteValue.valueError "reflectlite.Value.Type" 0) (fun t _ _ _ => ReflectliteType.toType t) #[.agg #[.pointer (some ⟨6, 71, none⟩), .pointer (some a), .int .u64 150]]).run Tryz.prog w
    = .ok (.iface 174 (.agg #[.pointer (some ⟨6, 71, none⟩)])) w := by kernel_rfl
theorem Ar.methodKind (h : Value) (w : World) : (Go.method 405 174 (.agg #[h]) "Kind").run Tryz.prog w = .ok (175, h) w := by kernel_rfl
theorem Ar.kindP (w : World) : ((ReflectliteType.abiMethod fun t => (fun a : Nat => Value.int IntKind.u8 (a : Int)) <$> Rtype.kind t) #[.pointer (some ⟨6, 71, none⟩)]).run Tryz.prog w = .ok (.int .u8 22) w := by kernel_rfl
theorem Ar.kindE (w : World) : ((ReflectliteType.abiMethod fun t => (fun a : Nat => Value.int IntKind.u8 (a : Int)) <$> Rtype.kind t) #[.pointer (some ⟨6, 69, none⟩)]).run Tryz.prog w = .ok (.int .u8 2) w := by kernel_rfl
theorem rlm (z : Sem Value) (f : TypeId → Addr → Nat → Nat → Sem Value) (v : Value) :
    ReflectliteValue.method z f #[v] = (do match ← ReflectliteValue.parts v with | none => z | some (t, a, fl) => f t a fl (fl % 32)) := rfl
theorem Ar.partsP (a : Addr) (w : World) : (ReflectliteValue.parts (.agg #[.pointer (some ⟨6, 71, none⟩), .pointer (some a), .int .u64 150])).run Tryz.prog w = .ok (some (71, a, 150)) w := by kernel_rfl
theorem Ar.isNilP (a p : Addr) (W : World) (ha : W.cell? a = some (.pointer (some p))) :
    (ReflectliteValue.method (ReflectliteValue.valueError "reflectlite.Value.IsNil" 0) ReflectliteValue.isNil #[.agg #[.pointer (some ⟨6, 71, none⟩), .pointer (some a), .int .u64 150]]).run Tryz.prog W = .ok (.bool false) W := by
  rw [rlm]
  simp only [Sem.run_bind, Ar.partsP, Result.andThen]
  simp [ReflectliteValue.isNil, loadVar, isAgg, underlying, Tryz.underlying71, ha, Result.andThen]
theorem Ar.methodElem (h : Value) (w : World) : (Go.method 405 174 (.agg #[h]) "Elem").run Tryz.prog w = .ok (185, .agg #[h]) w := by kernel_rfl
theorem Ar.methodImplements (h : Value) (w : World) : (Go.method 405 174 (.agg #[h]) "Implements").run Tryz.prog w = .ok (186, .agg #[h]) w := by kernel_rfl
theorem Ar.methodAssignableTo (h : Value) (w : World) : (Go.method 405 174 (.agg #[h]) "AssignableTo").run Tryz.prog w = .ok (183, .agg #[h]) w := by kernel_rfl
theorem Ar.elemP (w : World) : (ReflectliteType.method ReflectliteType.elem #[.agg #[.pointer (some ⟨6, 71, none⟩)]]).run Tryz.prog w = .ok (.iface 174 (.agg #[.pointer (some ⟨6, 69, none⟩)])) w := by kernel_rfl
theorem Ar.implementsE (w : World) : (ReflectliteType.relation "Implements" ReflectliteType.implements_ #[.agg #[.pointer (some ⟨6, 69, none⟩)], .iface 174 (.agg #[.pointer (some ⟨6, 27, none⟩)])]).run Tryz.prog w = .ok (.bool true) w := by kernel_rfl
theorem Ar.typeOfE (v : Value) (w : World) : (ReflectliteType.typeOf #[.iface 69 v]).run Tryz.prog w = .ok (.iface 174 (.agg #[.pointer (some ⟨6, 69, none⟩)])) w := by kernel_rfl
theorem Ar.assignableE (w : World) : (ReflectliteType.relation "AssignableTo" ReflectliteType.assignableTo #[.agg #[.pointer (some ⟨6, 69, none⟩)], .iface 174 (.agg #[.pointer (some ⟨6, 69, none⟩)])]).run Tryz.prog w = .ok (.bool true) w := by kernel_rfl
theorem Ar.valueOfE (e : Int) (w : World) : (ReflectliteValue.unpack (.iface 69 (.int .i64 e))).run Tryz.prog w
    = .ok (.agg #[.pointer (some ⟨6, 69, none⟩), .pointer (some ⟨w.heap.size, 0, none⟩), .int .u64 130]) (w.alloc (.cells #[.int .i64 e] 69)) := by kernel_rfl
theorem Ar.elemOfP (w : World) : (Rtype.elem? 71).run Tryz.prog w = .ok (some 69) w := by kernel_rfl
theorem Ar.mkE (p : Addr) (w : World) : (ReflectliteValue.mk 69 p ReflectliteValue.flagAddr).run Tryz.prog w = .ok (.agg #[.pointer (some ⟨6, 69, none⟩), .pointer (some p), .int .u64 386]) w := by kernel_rfl
theorem Ar.elemVP (a p : Addr) (W : World) (ha : W.cell? a = some (.pointer (some p))) :
    (ReflectliteValue.method (ReflectliteValue.valueError "reflectlite.Value.Elem" 0) ReflectliteValue.elem #[.agg #[.pointer (some ⟨6, 71, none⟩), .pointer (some a), .int .u64 150]]).run Tryz.prog W
      = .ok (.agg #[.pointer (some ⟨6, 69, none⟩), .pointer (some p), .int .u64 386]) W := by
  rw [rlm]
  simp only [Sem.run_bind, Ar.partsP, Result.andThen]
  simp [ReflectliteValue.elem, loadVar, isAgg, underlying, Tryz.underlying71, ha, Result.andThen, Ar.elemOfP, Ar.mkE]
theorem rls (v x : Value) : ReflectliteValue.set #[v, x] = (do
    let (some (dst, a, fl), some (src, b, _)) := (← ReflectliteValue.parts v, ← ReflectliteValue.parts x)
      | unsupported (.noEntry "extern/(internal/reflectlite.Value).Set.zeroValue")
    if fl / ReflectliteValue.flagAddr % 2 == 0 then unsupported (.noEntry "extern/(internal/reflectlite.Value).Set.unaddressable")
    let val ← loadVar src b
    if ← Rtype.directlyAssignable dst src then storeVar dst a val
    else if ← Rtype.implements dst src then
      if (← Rtype.kind src) == 20 then
        match val with
        | .nilIface => unsupported (.noEntry "extern/reflectlite: a nil value of one interface type handed on as a value of another")
        | _ => storeVar dst a val
      else storeVar dst a (.iface src val)
    else panicString ("reflectlite.Set: value of type " ++ (← Rtype.spelt src) ++ " is not assignable to type " ++ (← Rtype.spelt dst))
    pure (.tuple #[])) := rfl
theorem Ar.partsEa (a : Addr) (w : World) : (ReflectliteValue.parts (.agg #[.pointer (some ⟨6, 69, none⟩), .pointer (some a), .int .u64 386])).run Tryz.prog w = .ok (some (69, a, 386)) w := by kernel_rfl
theorem Ar.partsE (a : Addr) (w : World) : (ReflectliteValue.parts (.agg #[.pointer (some ⟨6, 69, none⟩), .pointer (some a), .int .u64 130])).run Tryz.prog w = .ok (some (69, a, 130)) w := by kernel_rfl
theorem Ar.directE (w : World) : (Rtype.directlyAssignable 69 69).run Tryz.prog w = .ok true w := by kernel_rfl
theorem Ar.setE (ta b : Addr) (e : Int) (old : Value) (W : World) (hb : W.cell? b = some (.int .i64 e)) (ht : W.cell? ta = some old) (hf : W.frozen? ta = false) :
    (ReflectliteValue.set #[.agg #[.pointer (some ⟨6, 69, none⟩), .pointer (some ta), .int .u64 386], .agg #[.pointer (some ⟨6, 69, none⟩), .pointer (some b), .int .u64 130]]).run Tryz.prog W
      = .ok (.tuple #[]) (W.setCell ta (.int .i64 e)) := by
  rw [rls]
  simp only [Sem.run_bind, Ar.partsEa, Ar.partsE, Result.andThen]
  simp [ReflectliteValue.flagAddr, loadVar, isAgg, underlying, Tryz.underlying69, hb, Result.andThen, Ar.directE, storeVar, Value.cells, storeCells, Addr.add]
  rw [run_store Tryz.prog W ta _ _ (by rfl)]
  simp [ht, hf]
/-- The cell of errors.errorType. -/
def ErrT (w : World) : Prop := w.cell? ⟨0, 0, none⟩ = some (.iface 174 (.agg #[.pointer (some ⟨6, 27, none⟩)]))
set_option maxHeartbeats 4000000 in
theorem as_hit (e : Int) (t : Addr) (old : Value) (w : World) (hg : w.cell? ⟨0, 0, none⟩ = some (.iface 174 (.agg #[.pointer (some ⟨6, 27, none⟩)]))) (ht0 : w.cell? t = some old) (hf0 : w.frozen? t = false) :
    Calls Tryz.prog 26 #[.iface 69 (.int .i64 e), .iface 71 (.pointer (some t))] w fun ev w' => ev = .returned (.bool true) ∧ w' = ((((w.alloc (.cells #[.pointer (some t)] 71)).alloc (.cells #[.pointer (some ⟨6, 71, none⟩), .pointer (some ⟨w.heap.size, 0, none⟩), .int .u64 150] 133)).alloc (.cells #[.pointer (some ⟨6, 71, none⟩), .pointer (some ⟨w.heap.size, 0, none⟩), .int .u64 150] 133)).alloc (.cells #[.int .i64 e] 69)).setCell t (.int .i64 e) := by
  have h6 := @run_callFunc_extern Tryz.prog 59 _ (fun args => ReflectliteValue.unpack (args.getD 0 (.tuple #[]))) Tryz.func59 (by kernel_rfl) (by kernel_rfl) (by kernel_rfl) (by kernel_rfl)
  have h7 := @run_callFunc_extern Tryz.prog 60 _ (ReflectliteValue.methodAny (ReflectliteValue.valueError "reflectlite.Value.Type" 0) (fun t _ _ _ => ReflectliteType.toType t)) Tryz.func60 (by kernel_rfl) (by kernel_rfl) (by kernel_rfl) (by kernel_rfl)
  have h8 := @run_callFunc_extern Tryz.prog 61 _ (ReflectliteValue.method (ReflectliteValue.valueError "reflectlite.Value.IsNil" 0) ReflectliteValue.isNil) Tryz.func61 (by kernel_rfl) (by kernel_rfl) (by kernel_rfl) (by kernel_rfl)
  have h27 := @run_callFunc_extern Tryz.prog 175 _ (ReflectliteType.abiMethod fun t => do pure (.int .u8 (← Rtype.kind t))) Tryz.func175 (by kernel_rfl) (by kernel_rfl) (by kernel_rfl) (by kernel_rfl)
  have h37 := @run_callFunc_extern Tryz.prog 185 _ (ReflectliteType.method ReflectliteType.elem) Tryz.func185 (by kernel_rfl) (by kernel_rfl) (by kernel_rfl) (by kernel_rfl)
  have h38 := @run_callFunc_extern Tryz.prog 186 _ (ReflectliteType.relation "Implements" ReflectliteType.implements_) Tryz.func186 (by kernel_rfl) (by kernel_rfl) (by kernel_rfl) (by kernel_rfl)
  have h10 := @run_callFunc_extern Tryz.prog 90 _ ReflectliteType.typeOf Tryz.func90 (by kernel_rfl) (by kernel_rfl) (by kernel_rfl) (by kernel_rfl)
  have h35 := @run_callFunc_extern Tryz.prog 183 _ (ReflectliteType.relation "AssignableTo" ReflectliteType.assignableTo) Tryz.func183 (by kernel_rfl) (by kernel_rfl) (by kernel_rfl) (by kernel_rfl)
  have h11 := @run_callFunc_extern Tryz.prog 91 _ (ReflectliteValue.method (ReflectliteValue.valueError "reflectlite.Value.Elem" 0) ReflectliteValue.elem) Tryz.func91 (by kernel_rfl) (by kernel_rfl) (by kernel_rfl) (by kernel_rfl)
  have h12 := @run_callFunc_extern Tryz.prog 92 _ ReflectliteValue.set Tryz.func92 (by kernel_rfl) (by kernel_rfl) (by kernel_rfl) (by kernel_rfl)
  have tO := Ar.typeOfE
  have mA := Ar.methodAssignableTo
  have a25 := Ar.assignableE
  have v25 := Ar.valueOfE
  have f6 := Ar.valueOfP
  have f7 := Ar.typeP
  have mK := Ar.methodKind
  have mE := Ar.methodElem
  have mI := Ar.methodImplements
  have k27 := Ar.kindP
  have k25 := Ar.kindE
  have e27 := Ar.elemP
  have i25 := Ar.implementsE
  have n8 := Ar.isNilP ⟨w.heap.size, 0, none⟩ t ((w.alloc (.cells #[.pointer (some t)] 71)).alloc (.cells #[.pointer (some ⟨6, 71, none⟩), .pointer (some ⟨w.heap.size, 0, none⟩), .int .u64 150] 133)) (by simp)
  have hlt : 0 < w.heap.size := by
    rcases Nat.eq_zero_or_pos w.heap.size with h0 | h
    · simp [World.cell?, h0] at hg
    · exact h
  have hg2 : ((w.alloc (.cells #[.pointer (some t)] 71)).alloc (.cells #[.pointer (some ⟨6, 71, none⟩), .pointer (some ⟨w.heap.size, 0, none⟩), .int .u64 150] 133)).cell? ⟨0, 0, none⟩ = some (.iface 174 (.agg #[.pointer (some ⟨6, 27, none⟩)])) := by
    rw [World.cell?_alloc_lt _ _ ⟨0, 0, none⟩ (by simp), World.cell?_alloc_lt _ _ ⟨0, 0, none⟩ hlt]; exact hg
  have htl : t.block < w.heap.size := by
    rcases Nat.lt_or_ge t.block w.heap.size with h | h
    · exact h
    · simp [World.cell?, Array.getElem?_eq_none h] at ht0
  have el := Ar.elemVP ⟨w.heap.size, 0, none⟩ t (((w.alloc (.cells #[.pointer (some t)] 71)).alloc (.cells #[.pointer (some ⟨6, 71, none⟩), .pointer (some ⟨w.heap.size, 0, none⟩), .int .u64 150] 133)).alloc (.cells #[.pointer (some ⟨6, 71, none⟩), .pointer (some ⟨w.heap.size, 0, none⟩), .int .u64 150] 133)) (by rw [World.cell?_alloc_lt _ _ ⟨w.heap.size, 0, none⟩ (by simp; omega)]; simp)
  have st := Ar.setE t ⟨w.heap.size + 1 + 1 + 1, 0, none⟩ e old ((((w.alloc (.cells #[.pointer (some t)] 71)).alloc (.cells #[.pointer (some ⟨6, 71, none⟩), .pointer (some ⟨w.heap.size, 0, none⟩), .int .u64 150] 133)).alloc (.cells #[.pointer (some ⟨6, 71, none⟩), .pointer (some ⟨w.heap.size, 0, none⟩), .int .u64 150] 133)).alloc (.cells #[.int .i64 e] 69))
    (by rw [World.cell?_alloc_at _ _ _ _ (by simp)]; rfl)
    (by rw [World.cell?_alloc_lt _ _ t (by simp; omega), World.cell?_alloc_lt _ _ t (by simp; omega), World.cell?_alloc_lt _ _ t (by simp; omega), World.cell?_alloc_lt _ _ t htl]; exact ht0)
    (by rw [World.frozen?_alloc_old _ _ t (by simp; omega), World.frozen?_alloc_old _ _ t (by simp; omega), World.frozen?_alloc_old _ _ t (by simp; omega), World.frozen?_alloc_old _ _ t (Nat.ne_of_lt htl)]; exact hf0)
  go_enter Tryz.func26, Tryz.ntmps26
  go_wp2
  refine wp_loop_rounds 1 ?_
  rw [rounds_succ]
  go_wp2
  go_ret
  exact ⟨rfl, rfl⟩
end Go.Proofs.YtlecglmiigdjlaaGreatDoor
