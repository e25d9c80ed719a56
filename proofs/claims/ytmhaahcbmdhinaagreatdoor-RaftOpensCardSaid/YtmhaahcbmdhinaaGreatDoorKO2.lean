/- Walks: the law's sameLog, sameStored, told exactly.
   Walk: tollbarlaw13.as. (Printed by mkr4.py.)
   Walks: New's refusals at a number or a span that may not be: raft.New, tollbarref13.New.
   The reach of what lies deep in what comes in.
   (Cut out of lib's XStIn.) What comes in: what is to be kept (the document's, seven cells each, the log and the members and the snapshot within). -/
import Derived.Test.YtmhaahcbmdhinaaGreatDoorKO1
import Derived.Test.YtmhaahcbmdhinaaGreatDoorKO0
import Derived.Test.YtmhaahcbmdhinaaGreatDoorK28
import Derived.Test.YtmhaahcbmdhinaaGreatDoorK19
import Derived.Test.YtmhaahcbmdhinaaGreatDoorK1
import Derived.Test.YtmhaahcbmdhinaaGreatDoorK10
namespace Go.Proofs.YtmhaahcbmdhinaaGreatDoor
open Go.RowKit
set_option maxRecDepth 100000
set_option linter.unusedVariables false
set_option linter.unusedSimpArgs false
set_option maxHeartbeats 1600000 in
theorem sameLog_any (x y : Sv) (w : World) {ok ok' : Nat → Prop} (hx : x.At w ok) (hy : y.At w ok') (fx : x.Fit) (fy : y.Fit) (mx : x.st.may = true) (my : y.st.may = true) (htab : TabW w) (res : Bool) (hres : res = true ↔ x.b = y.b ∧ x.t = y.t ∧ x.L.map en = y.L.map en) :
    Calls Tryz.prog 105 #[.agg #[.int .i64 x.b, .int .i64 x.t, .slice x.A x.n x.c], .agg #[.int .i64 y.b, .int .i64 y.t, .slice y.A y.n y.c]] w (BoolPost w res) := by
  obtain ⟨re, hre⟩ : ∃ re : Bool, re = true ↔ x.L.map en = y.L.map en := by
    by_cases h : x.L.map en = y.L.map en
    · exact ⟨true, by simp [h]⟩
    · exact ⟨false, by simp [h]⟩
  obtain ⟨q1, hq1⟩ : ∃ q, (x.b == y.b) = q := ⟨_, rfl⟩
  obtain ⟨q2, hq2⟩ : ∃ q, (x.t == y.t) = q := ⟨_, rfl⟩
  have hr : res = (q1 && q2 && re) := by
    rw [← hq1, ← hq2, Bool.eq_iff_iff, hres, Bool.and_eq_true, Bool.and_eq_true, beq_iff_eq, beq_iff_eq, hre]
    exact ⟨fun ⟨a, b, c⟩ => ⟨⟨a, b⟩, c⟩, fun ⟨⟨a, b⟩, c⟩ => ⟨a, b, c⟩⟩
  obtain ⟨W0, hW0⟩ : ∃ W0, W0 = (w.alloc (.cells #[.int .i64 x.b, .int .i64 x.t, .slice x.A x.n x.c] 38)).alloc (.cells #[.int .i64 y.b, .int .i64 y.t, .slice y.A y.n y.c] 24) := ⟨_, rfl⟩
  have b0 : Bx W0 w.heap.size #[.int .i64 x.b, .int .i64 x.t, .slice x.A x.n x.c] := by subst hW0; exact (Bx.new _ _ _ rfl).alloc _
  have b1 : Bx W0 (w.heap.size + 1) #[.int .i64 y.b, .int .i64 y.t, .slice y.A y.n y.c] := by subst hW0; exact Bx.new _ _ _ (by simp)
  have hbe : Below w.heap.size w W0 := by subst hW0; exact ((Below.refl _ _).alloc (Nat.le_refl _) _).alloc (by simp) _
  have a0 := hx.below hbe
  have a1 := hy.below hbe
  have hen := entries_any x.A x.n x.c x.L y.A y.n y.c y.L W0 a0.l a1.l (fun z hz => (a0.d z hz).1.any) (fun z hz => (a1.d z hz).1.any) (wt_of (W := w) (ok := ok) fx mx) (wt_of (W := w) (ok := ok) fy my) fx.z.1 (htab.below hbe (Nat.le_refl _)) re hre
  obtain ⟨c0, c1, c2, -⟩ := b0.c3
  obtain ⟨d0, d1, d2, -⟩ := b1.c3
  have HW := Lib.hid hW0
  have B := Lib.hid hbe
  have Hen := Lib.hid hen
  subst hr
  clear hW0 b0 b1 hbe a0 a1 hen hx hy fx fy htab hre hres mx my
  cases q1
  · go_enter Tryz.func105, Tryz.ntmps105
    go_upto_region 1 with (fail)
    rw [← HW.out]
    go_wp2_with fail
    go_ret
    exact ⟨rfl, B.out⟩
  · cases q2
    · go_enter Tryz.func105, Tryz.ntmps105
      go_upto_region 1 with (fail)
      rw [← HW.out]
      go_wp2_with fail
      go_ret
      exact ⟨rfl, B.out⟩
    · go_enter Tryz.func105, Tryz.ntmps105
      go_upto_region 1 with (fail)
      rw [← HW.out]
      go_wp2_with fail
      refine Hen.out.mono ?_
      rintro e w1 ⟨rfl, hb1⟩
      have K := Lib.hid (B.out.trans (hb1.mono B.out.size))
      clear hb1
      go_wp2_with fail
      go_ret
      exact ⟨rfl, K.out⟩
set_option maxHeartbeats 6400000 in
theorem sameS_any (x y : Sv) (w : World) {ok ok' : Nat → Prop} (hx : x.At w ok) (hy : y.At w ok') (fx : x.Fit) (fy : y.Fit) (mx : x.st.may = true) (my : y.st.may = true) (htab : TabW w) (res : Bool) (hres : res = true ↔ x.st = y.st) :
    Calls Tryz.prog 46 #[x.val, y.val] w (BoolPost w res) := by
  obtain ⟨rl, hrl⟩ : ∃ rl : Bool, rl = true ↔ x.b = y.b ∧ x.t = y.t ∧ x.L.map en = y.L.map en := by
    by_cases h : x.b = y.b ∧ x.t = y.t ∧ x.L.map en = y.L.map en
    · exact ⟨true, by simp [h]⟩
    · exact ⟨false, by simp [h]⟩
  obtain ⟨q1, hq1⟩ : ∃ q, (x.tm == y.tm) = q := ⟨_, rfl⟩
  obtain ⟨q2, hq2⟩ : ∃ q, (x.vt == y.vt) = q := ⟨_, rfl⟩
  obtain ⟨q3, hq3⟩ : ∃ q, decide (x.cf = y.cf) = q := ⟨_, rfl⟩
  obtain ⟨q4, hq4⟩ : ∃ q, (x.sn == y.sn) = q := ⟨_, rfl⟩
  have hr : res = (q1 && q2 && rl && q3 && q4) := by
    rw [← hq1, ← hq2, ← hq3, ← hq4, Bool.eq_iff_iff, hres, Bool.and_eq_true, Bool.and_eq_true, Bool.and_eq_true, Bool.and_eq_true, beq_iff_eq, beq_iff_eq, beq_iff_eq, decide_eq_true_iff, hrl, st_iff]
    exact ⟨fun ⟨a, b, c, d, e, f, g⟩ => ⟨⟨⟨⟨a, b⟩, c, d, e⟩, f⟩, g⟩, fun ⟨⟨⟨⟨a, b⟩, c, d, e⟩, f⟩, g⟩ => ⟨a, b, c, d, e, f, g⟩⟩
  obtain ⟨W0, hW0⟩ : ∃ W0, W0 = (w.alloc (.cells x.cells 41)).alloc (.cells y.cells 28) := ⟨_, rfl⟩
  have b0 : Bx W0 w.heap.size x.cells := by subst hW0; exact (Bx.new _ _ _ rfl).alloc _
  have b1 : Bx W0 (w.heap.size + 1) y.cells := by subst hW0; exact Bx.new _ _ _ (by simp)
  have hbe : Below w.heap.size w W0 := by subst hW0; exact ((Below.refl _ _).alloc (Nat.le_refl _) _).alloc (by simp) _
  have a0 := hx.below hbe
  have a1 := hy.below hbe
  have hlg := sameLog_any x y W0 a0 a1 fx fy mx my (htab.below hbe (Nat.le_refl _)) rl hrl
  have hin := fun W (hb : Below W0.heap.size W0 W) => ints_any x.C x.nc x.cc y.C y.nc y.cc x.cf y.cf W (a0.cf.below hb) (a1.cf.below hb) (by have := fx.z.2.1; omega)
  rw [hq3] at hin
  have cv1 := fun W (hb : Below W0.heap.size W0 W) => conv_bytes (P := Tryz.prog) (c := x.cs) 26 9 5 Tryz.underlying26 Tryz.underlying5 Tryz.underlying9 (a0.sn.below hb)
  have cv2 := fun W (hb : Below W0.heap.size W0 W) => conv_bytes (P := Tryz.prog) (c := y.cs) 26 9 5 Tryz.underlying26 Tryz.underlying5 Tryz.underlying9 (a1.sn.below hb)
  have F : ∀ W, Below W0.heap.size W0 W → (W.cell? ⟨w.heap.size, 0, none⟩ = some (.int .i64 x.tm) ∧ W.cell? ⟨w.heap.size, 1, none⟩ = some (.int .i64 x.vt) ∧ W.cell? ⟨w.heap.size, 2, none⟩ = some (.int .i64 x.b) ∧ W.cell? ⟨w.heap.size, 3, none⟩ = some (.int .i64 x.t) ∧ W.cell? ⟨w.heap.size, 4, none⟩ = some (.slice x.A x.n x.c) ∧ W.cell? ⟨w.heap.size, 5, none⟩ = some (.slice x.C x.nc x.cc) ∧ W.cell? ⟨w.heap.size, 6, none⟩ = some (.slice x.S x.ns x.cs)) ∧ (W.cell? ⟨w.heap.size + 1, 0, none⟩ = some (.int .i64 y.tm) ∧ W.cell? ⟨w.heap.size + 1, 1, none⟩ = some (.int .i64 y.vt) ∧ W.cell? ⟨w.heap.size + 1, 2, none⟩ = some (.int .i64 y.b) ∧ W.cell? ⟨w.heap.size + 1, 3, none⟩ = some (.int .i64 y.t) ∧ W.cell? ⟨w.heap.size + 1, 4, none⟩ = some (.slice y.A y.n y.c) ∧ W.cell? ⟨w.heap.size + 1, 5, none⟩ = some (.slice y.C y.nc y.cc) ∧ W.cell? ⟨w.heap.size + 1, 6, none⟩ = some (.slice y.S y.ns y.cs)) := fun W hb => ⟨Sv.c7 (b0.below hb), Sv.c7 (b1.below hb)⟩
  obtain ⟨⟨c0, c1, c2, c3, c4, c5, c6⟩, d0, d1, d2, d3, d4, d5, d6⟩ := F W0 (Below.refl _ _)
  have HW := Lib.hid hW0
  have B := Lib.hid hbe
  have Hlg := Lib.hid hlg
  have Hin := Lib.hid hin
  have CV := Lib.hid (And.intro cv1 cv2)
  have FF := Lib.hid F
  subst hr
  clear hW0 b0 b1 hbe a0 a1 hlg hin cv1 cv2 F hx hy fx fy htab hres hrl mx my hq3
  unfold Sv.val stA
  have go0 : ∀ (P : Prop), P → P := fun _ h => h
  clear go0
  cases q1
  · go_enter Tryz.func46, Tryz.ntmps46
    go_upto_region 1 with (fail)
    have HW' := HW.out
    unfold Sv.cells at HW'
    rw [← HW']
    clear HW'
    go_wp2_with fail
    go_ret
    exact ⟨rfl, B.out⟩
  cases q2
  · go_enter Tryz.func46, Tryz.ntmps46
    go_upto_region 1 with (fail)
    have HW' := HW.out
    unfold Sv.cells at HW'
    rw [← HW']
    clear HW'
    go_wp2_with fail
    go_ret
    exact ⟨rfl, B.out⟩
  go_enter Tryz.func46, Tryz.ntmps46
  go_upto_region 1 with (fail)
  have HW' := HW.out
  unfold Sv.cells at HW'
  rw [← HW']
  clear HW'
  go_wp2_with fail
  refine Hlg.out.mono ?_
  rintro e w1 ⟨rfl, hb1⟩
  have K1 := Lib.hid hb1
  clear hb1 c0 c1 c2 c3 c4 c5 c6 d0 d1 d2 d3 d4 d5 d6
  obtain ⟨⟨c0, c1, c2, c3, c4, c5, c6⟩, d0, d1, d2, d3, d4, d5, d6⟩ := FF.out w1 K1.out
  have HB1 := Lib.hid (B.out.trans (K1.out.mono B.out.size))
  cases rl
  · go_wp2_with fail
    go_ret
    exact ⟨rfl, HB1.out⟩
  go_wp2_with fail
  refine (Hin.out w1 K1.out).mono ?_
  rintro e w2 ⟨rfl, hb2⟩
  have K2 := Lib.hid (K1.out.trans (hb2.mono K1.out.size))
  clear hb2 c0 c1 c2 c3 c4 c5 c6 d0 d1 d2 d3 d4 d5 d6
  obtain ⟨⟨c0, c1, c2, c3, c4, c5, c6⟩, d0, d1, d2, d3, d4, d5, d6⟩ := FF.out w2 K2.out
  have v1 := CV.out.1 w2 K2.out
  have v2 := CV.out.2 w2 K2.out
  have HB2 := Lib.hid (B.out.trans (K2.out.mono B.out.size))
  cases q3
  · go_wp2_with fail
    go_ret
    exact ⟨rfl, HB2.out⟩
  · go_wp2_with fail
    go_ret
    exact ⟨rfl, HB2.out⟩
end Go.Proofs.YtmhaahcbmdhinaaGreatDoor
namespace Go.Proofs.YtmhaahcbmdhinaaGreatDoor
open Go.RowKit
set_option maxRecDepth 100000
set_option linter.unusedVariables false
set_option linter.unusedSimpArgs false
theorem members_conf {C : Cr} (hm : C.s.may = true) : C.members = C.s.conf := by
  unfold Cr.members Cr.upto St.conf St.upto Cr.last
  cases hx : memE C.s.l (lstA C.s.b C.s.l) with
  | none => rfl
  | some x =>
    dsimp only
    have hin : x ∈ C.s.l := List.mem_reverse.1 (List.mem_of_find?_eq_some hx)
    have hc : x.c = 2 := by
      have := List.find?_some hx
      simp at this
      exact this.1
    have hr : rdE C.s.l = true := by
      unfold St.may at hm
      simp only [Bool.and_eq_true] at hm
      exact hm.1.1.1.1.2
    unfold rdE at hr
    rw [List.all_eq_true] at hr
    have := hr x hin
    unfold rbad at this
    rw [hc] at this
    simp at this
    cases hd : confD x.d with
    | none => rw [hd] at this; simp at this
    | some l => rfl
theorem range7 (s : Sv) (id span role leader commit round gone wait : Int) (V P : Value) (key : Int) (H : Value) {W : World} {g : Nat} (b : Bx W g (coreR s id span role leader commit round gone wait V P key H)) :
    W.rangeAt g 0 [.int .i64 s.tm, .int .i64 s.vt, .int .i64 s.b, .int .i64 s.t, .slice s.A s.n s.c, .slice s.C s.nc s.cc, .slice s.S s.ns s.cs] := fun j v hv => by
  have hj := (List.getElem?_eq_some_iff.1 hv).1
  rw [Nat.zero_add, b.c j]
  simp at hj
  rcases j with _ | _ | _ | _ | _ | _ | _ | j
  · exact hv
  · exact hv
  · exact hv
  · exact hv
  · exact hv
  · exact hv
  · exact hv
  · omega
set_option maxHeartbeats 12800000 in
theorem as_any {fb p : Nat} {w : World} {VV U : Nat → Prop} {C : Cr} {m : Mb} {k : Nat} (hx : CX fb w p VV U C m) (ho : C.Ok k) (he : Env fb w) (s : Sv) {ok : Nat → Prop} (h : s.At w ok) (hf : s.Fit) (hs : s.st = C.s) (id span gone wait : Int) (V P : Value) (key : Int) (H : Value) :
    Calls Tryz.prog 16 #[.pointer (some ⟨p, 0, none⟩), .agg (coreR s id span C.role C.leader C.commit C.round gone wait V P key H)] w (BoolPost w true) := by
  obtain ⟨W0, hW0⟩ : ∃ W0, W0 = w.alloc (.cells (coreR s id span C.role C.leader C.commit C.round gone wait V P key H) 47) := ⟨_, rfl⟩
  have b0 : Bx W0 w.heap.size (coreR s id span C.role C.leader C.commit C.round gone wait V P key H) := by subst hW0; exact Bx.new _ _ _ rfl
  have hb0 : Below w.heap.size w W0 := by subst hW0; exact (Below.refl _ _).alloc (Nat.le_refl _) _
  have hm : s.st.may = true := by rw [hs]; exact ho.may
  have hvw := view_any (hx.below hb0)
  unfold Cr.viewV at hvw
  have hst := fun W' (hb : Below W0.heap.size W0 W') => stored_any ((hx.below hb0).below hb) ho
  have hsm := fun (s' : Sv) (W' : World) (ok' : Nat → Prop) (hb : Below W0.heap.size W0 W') (ha : s'.At W' ok') (e : s'.st = C.s) => sameS_any s' s W' ha ((h.below hb0).below hb) (Sv.fit_of ha ((hx.below hb0).below hb).at_ (hx.fit ho) (e.trans hx.st.symm)) hf (by rw [e]; exact ho.may) hm ((he.new hb0).new hb).tab true (by rw [e, hs]; simp)
  have hcf := fun W' (hb : Below W0.heap.size W0 W') => cconf_any ((hx.below hb0).below hb) (hx.fit ho) ho.may ((he.new hb0).new hb).ev
  have hrc := fun W' (hb : Below W0.heap.size W0 W') => rconf_any s id span C.role C.leader C.commit C.round gone wait V P key H W' ((h.below hb0).below hb) hf hm
  have hin := fun (A : Option Addr) (n c : Nat) (B : Option Addr) (m d : Nat) (W' : World) (o1 o2 : Nat → Prop) (h1 : Rd W' o1 1 A n (ii C.members)) (h2 : Rd W' o2 1 B m (ii s.st.conf)) (h3 : m ≤ 1000000) => (show Calls Tryz.prog 47 #[.slice A n c, .slice B m d] W' (BoolPost W' true) by
    have e : C.members = s.st.conf := by rw [hs]; exact members_conf ho.may
    have l1 := h1.len
    have l2 := h2.len
    rw [e] at l1
    have := ints_any A n c B m d C.members s.st.conf W' h1 h2 (by omega)
    rwa [decide_eq_true e] at this)
  have hrg : ∀ W', Below W0.heap.size W0 W' → W'.rangeAt w.heap.size 0 (coreR s id span C.role C.leader C.commit C.round gone wait V P key H).toList := fun W' hb => Bx.range (b0.below hb)
  have hr7 := fun W' (hb : Below W0.heap.size W0 W') => range7 s id span C.role C.leader C.commit C.round gone wait V P key H (b0.below hb)
  have hcl : ∀ W', Below W0.heap.size W0 W' → W'.cell? ⟨w.heap.size, 9, none⟩ = some (.int .i64 C.role) ∧ W'.cell? ⟨w.heap.size, 10, none⟩ = some (.int .i64 C.leader) ∧ W'.cell? ⟨w.heap.size, 11, none⟩ = some (.int .i64 C.commit) ∧ W'.cell? ⟨w.heap.size, 12, none⟩ = some (.int .i64 C.round) := fun W' hb => ⟨(b0.below hb).c 9, (b0.below hb).c 10, (b0.below hb).c 11, (b0.below hb).c 12⟩
  have HW := Lib.hid hW0
  have B := Lib.hid hb0
  have Hvw := Lib.hid hvw
  have Hst := Lib.hid hst
  have Hsm := Lib.hid hsm
  have Hcf := Lib.hid hcf
  have Hrc := Lib.hid hrc
  have Hin := Lib.hid hin
  have Hrg := Lib.hid hrg
  have Hr7 := Lib.hid hr7
  have Hcl := Lib.hid hcl
  clear hx ho he h hf hs hm b0 hb0 hW0 hvw hst hsm hcf hrc hin hrg hr7 hcl
  unfold coreR at HW Hrc Hrg ⊢
  go_enter Tryz.func16, Tryz.ntmps16
  go_upto_region 1 with (fail)
  rw [← HW.out]
  go_wp2_with fail
  refine Hvw.out.mono ?_
  rintro e w1 ⟨rfl, hb1⟩
  have HB1 := Lib.hid hb1
  clear hb1
  go_upto_region 2 with (fail)
  obtain ⟨W2, hW2⟩ : ∃ W2, W2 = w1.alloc (.cells #[.int .i64 C.role, .int .i64 C.leader, .int .i64 C.commit, .int .i64 C.round] 57) := ⟨_, rfl⟩
  have b2 : Bx W2 w1.heap.size #[.int .i64 C.role, .int .i64 C.leader, .int .i64 C.commit, .int .i64 C.round] := by subst hW2; exact Bx.new _ _ _ rfl
  have hb2 : Below W0.heap.size W0 W2 := by subst hW2; exact HB1.out.alloc HB1.out.size _
  rw [← hW2]
  have F : Hid (∀ W', Below W2.heap.size W2 W' → W'.cell? ⟨w1.heap.size, 0, none⟩ = some (.int .i64 C.role) ∧ W'.cell? ⟨w1.heap.size, 1, none⟩ = some (.int .i64 C.leader) ∧ W'.cell? ⟨w1.heap.size, 2, none⟩ = some (.int .i64 C.commit) ∧ W'.cell? ⟨w1.heap.size, 3, none⟩ = some (.int .i64 C.round) ∧ W'.cell? ⟨w.heap.size, 9, none⟩ = some (.int .i64 C.role) ∧ W'.cell? ⟨w.heap.size, 10, none⟩ = some (.int .i64 C.leader) ∧ W'.cell? ⟨w.heap.size, 11, none⟩ = some (.int .i64 C.commit) ∧ W'.cell? ⟨w.heap.size, 12, none⟩ = some (.int .i64 C.round)) := Lib.hid fun W' hb =>
    ⟨(b2.below hb).c 0, (b2.below hb).c 1, (b2.below hb).c 2, (b2.below hb).c 3, Hcl.out W' (hb2.trans (hb.mono hb2.size))⟩
  have up : Hid (∀ W', Below W2.heap.size W2 W' → Below W0.heap.size W0 W') := Lib.hid fun W' hb => hb2.trans (hb.mono hb2.size)
  clear b2 hW2 hb2
  refine wp_region_S 40 (fun W' => Below W2.heap.size W2 W') (.take 0 (.take 1 (.take 2 (.take 3 (.take 4 (.take 5 (.take 6 (.take 7 (.take 8 (.take 9 (.take 10 (.take 11 (.take 12 (.take 13 (.take 14 (.take 15 (.take 16 (.take 17 (.take 18 (.take 19 (.take 20 (.take 21 (.take 22 (.take 23 (.take 24 (.take 25 (.take 26 (.take 27 (.take 29 (.take 30 (.one 28 (.one 31 (.take 32 (.take 33 (.take 34 (.take 36 (.one 35 (.one 37 (.one 38 (.take 39 (.one 40 (.nil)))))))))))))))))))))))))))))))))))))))))) (by kernel_rfl) (Below.refl _ _).drew (fun _ _ _ _ h => h) (fun hS => ?_)
  iterate 29 (first
    | (refine wpS_take (v := ?_) rfl rfl (by rfl) ?_ ?_; rotate_left; (intro W hW; have hf := F.out W hW; go_split_ands; go_simp; try with_reducible rfl); try simp only [Act.put, List.setIfInBounds_toArray, List.set_cons_zero, List.set_cons_succ])
    | (refine wpS_skip rfl rfl (by rfl) ?_; try simp only [Act.put, List.setIfInBounds_toArray, List.set_cons_zero, List.set_cons_succ]))
  refine wpS_take rfl rfl (by rfl) (fun W hW => ld_exec _ _ rfl _ _ rfl _ _ (Hr7.out W (up.out W hW)) Tryz.underlying28 rfl rfl) ?_
  try simp only [Act.put, List.setIfInBounds_toArray, List.set_cons_zero, List.set_cons_succ]
  refine wpS_one rfl (by rfl) (fun K hK => ?_)
  go_simp
  go_at_call 21
  refine (Hst.out _ (up.out _ hS)).mono ?_
  rintro e w3 ⟨s1, rfl, a3, e3, hb3⟩
  have hS3 := hS.trans (hb3.mono hS.size)
  clear hb3
  refine hK (fun W' => Below W2.heap.size W2 W') _ _ (fun _ h => h) hS3 ?_
  clear hK K
  try simp only [Act.put, List.setIfInBounds_toArray, List.set_cons_zero, List.set_cons_succ]
  unfold Sv.val stA
  refine wpS_one rfl (by rfl) (fun K hK => ?_)
  go_simp
  go_at_call 46
  refine (Hsm.out s1 _ _ (up.out _ hS3) a3 e3).mono ?_
  rintro e w4 ⟨rfl, hb4⟩
  have hS4 := hS3.trans (hb4.mono hS3.size)
  clear hb4
  refine hK (fun W' => Below W2.heap.size W2 W') _ _ (fun _ h => h) hS4 ?_
  clear hK K
  try simp only [Act.put, List.setIfInBounds_toArray, List.set_cons_zero, List.set_cons_succ]
  iterate 3 (first
    | (refine wpS_take (v := ?_) rfl rfl (by rfl) ?_ ?_; rotate_left; (intro W hW; have hf := F.out W hW; go_split_ands; go_simp; try with_reducible rfl); try simp only [Act.put, List.setIfInBounds_toArray, List.set_cons_zero, List.set_cons_succ])
    | (refine wpS_skip rfl rfl (by rfl) ?_; try simp only [Act.put, List.setIfInBounds_toArray, List.set_cons_zero, List.set_cons_succ]))
  refine wpS_take rfl rfl (by rfl) (fun W hW => ld_exec _ _ rfl _ _ rfl _ _ (Hrg.out W (up.out W hW)) Tryz.underlying47 rfl rfl) ?_
  try simp only [Act.put, List.setIfInBounds_toArray, List.set_cons_zero, List.set_cons_succ]
  refine wpS_one rfl (by rfl) (fun K hK => ?_)
  go_simp
  go_at_call 48
  refine (Hcf.out _ (up.out _ hS4)).mono ?_
  rintro e w5 ⟨A5, n5, c5, rfl, o5, hb5⟩
  have hS5 := hS4.trans (hb5.mono hS4.size)
  have r5 := Rd.of_own o5
  clear hb5 o5
  refine hK (fun W' => Below W2.heap.size W2 W') _ _ (fun _ h => h) hS5 ?_
  clear hK K
  try simp only [Act.put, List.setIfInBounds_toArray, List.set_cons_zero, List.set_cons_succ]
  refine wpS_one rfl (by rfl) (fun K hK => ?_)
  go_simp
  go_at_call 49
  refine (Hrc.out _ (up.out _ hS5)).mono ?_
  rintro e w6 ⟨A6, n6, c6, rfl, r6, l6, hb6⟩
  have hS6 := hS5.trans (hb6.mono hS5.size)
  have r5 := r5.below hb6
  clear hb6
  refine hK (fun W' => Below W2.heap.size W2 W') _ _ (fun _ h => h) hS6 ?_
  clear hK K
  try simp only [Act.put, List.setIfInBounds_toArray, List.set_cons_zero, List.set_cons_succ]
  refine wpS_one rfl (by rfl) (fun K hK => ?_)
  go_simp
  go_at_call 47
  refine (Hin.out A5 n5 c5 A6 n6 c6 _ _ _ r5 r6 l6).mono ?_
  rintro e w7 ⟨rfl, hb7⟩
  have hS7 := hS6.trans (hb7.mono hS6.size)
  clear hb7
  refine hK (fun W' => Below W2.heap.size W2 W') _ _ (fun _ h => h) hS7 ?_
  clear hK K
  try simp only [Act.put, List.setIfInBounds_toArray, List.set_cons_zero, List.set_cons_succ]
  iterate 1 (first
    | (refine wpS_take (v := ?_) rfl rfl (by rfl) ?_ ?_; rotate_left; (intro W hW; have hf := F.out W hW; go_split_ands; go_simp; try with_reducible rfl); try simp only [Act.put, List.setIfInBounds_toArray, List.set_cons_zero, List.set_cons_succ])
    | (refine wpS_skip rfl rfl (by rfl) ?_; try simp only [Act.put, List.setIfInBounds_toArray, List.set_cons_zero, List.set_cons_succ]))
  refine wpS_last rfl (by rfl) (fun K hK => ?_)
  go_simp
  refine hK _ _ ?_
  clear hK K
  try simp only [Act.put, List.setIfInBounds_toArray, List.set_cons_zero, List.set_cons_succ]
  refine wpS_nil ?_
  go_wp2_with fail
  go_ret
  exact ⟨rfl, B.out.trans ((up.out _ hS7).mono B.out.size)⟩
end Go.Proofs.YtmhaahcbmdhinaaGreatDoor
namespace Go.Proofs.YtmhaahcbmdhinaaGreatDoor
open Go.RowKit
set_option maxRecDepth 100000
set_option linter.unusedVariables false
set_option linter.unusedSimpArgs false
theorem bad_cases {id span : Int} (h : ¬ (1 ≤ id ∧ id ≤ 64 ∧ 2 ≤ span ∧ span ≤ 1000)) : (decide (id < 1) = true) ∨ (decide (id < 1) = false ∧ decide (64 < id) = true) ∨ (decide (id < 1) = false ∧ decide (64 < id) = false ∧ decide (span < 2) = true) ∨ (decide (id < 1) = false ∧ decide (64 < id) = false ∧ decide (span < 2) = false ∧ decide (1000 < span) = true) := by
  simp only [decide_eq_true_iff, decide_eq_false_iff_not]
  omega
set_option maxHeartbeats 3200000 in
theorem new_bad (id span draw : Int) (s : Sv) (w : World) (hbad : ¬ (1 ≤ id ∧ id ≤ 64 ∧ 2 ≤ span ∧ span ≤ 1000)) :
    Calls Tryz.prog 12 #[.int .i64 id, .int .i64 span, s.val, .int .i64 draw] w (fun e w' => e = .returned (.tuple #[.pointer none, .iface 105 (.int .i64 1)]) ∧ Below w.heap.size w w') := by
  obtain ⟨W0, hW0⟩ : ∃ W0, W0 = w.alloc (.cells s.cells 41) := ⟨_, rfl⟩
  have hbe : Below w.heap.size w W0 := by subst hW0; exact (Below.refl _ _).alloc (Nat.le_refl _) _
  have hc := bad_cases hbad
  unfold Sv.cells at hW0
  have HW := Lib.hid hW0
  have B := Lib.hid hbe
  clear hW0 hbe hbad
  unfold Sv.val stA
  go_enter Tryz.func12, Tryz.ntmps12
  go_upto_region 1 with (fail)
  rw [← HW.out]
  rcases hc with g1 | ⟨g1, g2⟩ | ⟨g1, g2, g3⟩ | ⟨g1, g2, g3, g4⟩
  all_goals
    go_wp2_with fail
    go_ret2
    exact ⟨rfl, B.out⟩
set_option maxHeartbeats 6400000 in
theorem newR_bad (id span draw : Int) (s : Sv) (w : World) {ok : Nat → Prop} (h : s.At w ok) (hf : s.Fit) (hbad : ¬ (1 ≤ id ∧ id ≤ 64 ∧ 2 ≤ span ∧ span ≤ 1000)) :
    Calls Tryz.prog 14 #[.int .i64 id, .int .i64 span, s.val, .int .i64 draw] w (fun e w' => e = .returned (.tuple #[.agg coreZ, .int .i64 1]) ∧ Below w.heap.size w w') := by
  obtain ⟨W0, hW0⟩ : ∃ W0, W0 = (w.alloc (.cells s.cells 28)).alloc (.cells coreZ 47) := ⟨_, rfl⟩
  have b0 : Bx W0 w.heap.size s.cells := by subst hW0; exact (Bx.new _ _ _ rfl).alloc _
  have b9 : Bx W0 (w.heap.size + 1) coreZ := by subst hW0; exact Bx.new _ _ _ (by simp)
  have hbe : Below w.heap.size w W0 := by subst hW0; exact ((Below.refl _ _).alloc (Nat.le_refl _) _).alloc (by simp) _
  have hz0 : W0.heap.size = w.heap.size + 2 := by subst hW0; simp
  have hla := lastR_any s.b s.t s.A s.n s.c s.L W0 (h.below hbe).l (h.wel hf) hf.z.1
  obtain ⟨x, y, hla⟩ : ∃ x y : Int, Calls Tryz.prog 40 #[.agg #[.int .i64 s.b, .int .i64 s.t, .slice s.A s.n s.c]] W0 (fun e w' => e = .returned (.tuple #[.int .i64 x, .int .i64 y]) ∧ Below W0.heap.size W0 w') := ⟨_, _, hla⟩
  obtain ⟨c0, c1, c2, c3, c4, c5, c6⟩ := Sv.c7 b0
  have hc := bad_cases hbad
  have HW := Lib.hid hW0
  have B := Lib.hid (And.intro b0 (And.intro b9 (And.intro hbe hz0)))
  have Hla := Lib.hid hla
  clear hW0 b0 b9 hbe hz0 hla h hf hbad
  unfold Sv.val stA
  go_enter Tryz.func14, Tryz.ntmps14
  go_upto_region 1 with (fail)
  have HW' := HW.out
  unfold Sv.cells coreZ at HW'
  rw [← HW']
  clear HW'
  go_wp2_with fail
  refine Hla.out.mono ?_
  rintro e w1 ⟨rfl, hb1⟩
  obtain ⟨ty, hy⟩ := (B.out.2.1.below hb1).hp
  have KB := Lib.hid hb1
  have Hy := Lib.hid hy
  clear hy hb1 c0 c1 c2 c3 c4 c5 c6
  rcases hc with g1 | ⟨g1, g2⟩ | ⟨g1, g2, g3⟩ | ⟨g1, g2, g3, g4⟩
  all_goals
    go_upto_region 3 with (fail)
    refine wp_region_lit ?_
    refine wpList_build rfl _ _ rfl (by kernel_rfl) ?_
    refine wpList_store_row rfl 47 _ _ rfl (w.heap.size + 1) coreZ (by rfl) (by kernel_rfl) _ _ Hy.out (by kernel_rfl) rfl coreZ_one ?_
    go_wp2_with fail
    refine bodyPost_ret (results_row_tmp rfl _ _ (w.heap.size + 1) _ coreZ (0, 0) _ rfl (setRow_heap _ _ _ _ _ _ Hy.out) Tryz.underlying47 rfl (by kernel_rfl)) rfl ?_
    refine ⟨rfl, ?_⟩
    exact below_setRow (B.out.2.2.1.trans (KB.out.mono B.out.2.2.1.size)) (by omega) _
end Go.Proofs.YtmhaahcbmdhinaaGreatDoor
namespace Go.Proofs.YtmhaahcbmdhinaaGreatDoor
open Go.ChangeShapes Go.WideShapes Go.ChangeAt Go.RowKit Go.Joins Go.Deep
set_option linter.unusedVariables false
set_option linter.unusedSimpArgs false
section
variable {H : Type} {enc : TypeId × Value → H} {P : Program} {w : World} {base : Nat} {spare : Nat → Bool} {held : Bool} {fuel : Nat} {v : Value} {t e : TypeId}
def Sized (P : Program) (t : TypeId) (d : DataW H) : Prop := ∀ x ∈ DataW.weights P t d, x ≤ reachBytes
theorem each_mem : ∀ (ts : List TypeId) (ds : List (DataW H)) (j : Nat) (t : TypeId) (d : DataW H), ts[j]? = some t → ds[j]? = some d → ∀ x ∈ DataW.weights P t d, x ∈ DataW.weightsEach P ts ds
  | [], _, j, t, d, h, _, _, _ => by simp at h
  | _ :: _, [], j, t, d, _, h, _, _ => by simp at h
  | t0 :: ts, d0 :: ds, 0, t, d, h1, h2, x, hx => by
    simp only [List.getElem?_cons_zero, Option.some.injEq] at h1 h2
    subst h1 h2
    rw [DataW.weightsEach]
    exact List.mem_append_left _ hx
  | t0 :: ts, d0 :: ds, j + 1, t, d, h1, h2, x, hx => by
    rw [DataW.weightsEach]
    exact List.mem_append_right _ (each_mem ts ds j t d (by simpa using h1) (by simpa using h2) x hx)
theorem all_mem : ∀ (ds : List (DataW H)) (d : DataW H), d ∈ ds → ∀ x ∈ DataW.weights P e d, x ∈ DataW.weightsAll P e ds
  | [], d, h, _, _ => by cases h
  | d0 :: ds, d, h, x, hx => by
    rw [DataW.weightsAll]
    rcases List.mem_cons.1 h with rfl | h
    · exact List.mem_append_left _ hx
    · exact List.mem_append_right _ (all_mem ds d h x hx)
theorem Sized.each {ts : List TypeId} {ds : List (DataW H)} (h : (DataW.weightsEach P ts ds).all (· ≤ reachBytes) = true) {j : Nat} {d : DataW H} (h1 : ts[j]? = some t) (h2 : ds[j]? = some d) : Sized P t d := fun x hx => by
  have := List.all_eq_true.1 h x (each_mem ts ds j t d h1 h2 x hx)
  simpa using this
theorem Sized.field {fs : Array Field} {parts : List (DataW H)} (he : P.underlying e = some (.struct fs)) (h : Sized P e (.agg parts)) {j : Nat} {f : Field} {d : DataW H} (h1 : fs[j]? = some f) (h2 : parts[j]? = some d) : Sized P f.type d := fun x hx => by
  refine h x ?_
  rw [DataW.weights, he]
  exact each_mem _ _ j f.type d (by simp [h1]) h2 x hx
theorem Sized.elem {es sp : List (DataW H)} (ht : P.underlying t = some (.slice e)) (h : Sized P t (.slice es sp)) {d : DataW H} (hd : d ∈ es) : Sized P e d := fun x hx => by
  refine h x ?_
  rw [DataW.weights, ht]
  exact List.mem_cons_of_mem _ (List.mem_append_left _ (all_mem es d hd x hx))
/-- As in_rows, with the reach of each field. -/
theorem in_rows_sized {fs : Array Field} {d : DataW H} {p : List MemPlace} (ht : P.underlying t = some (.slice e)) (he : P.underlying e = some (.struct fs)) (hone : oneCellFields P fs = true) (hC : P.cellsOf e = fs.size) (hpos : 0 < fs.size)
    (h : DataW.trod enc P w base spare held fuel t [v] = some (d, p)) (hs : Sized P t d) :
    ∃ A n c, v = .slice A n c ∧ n ≤ c ∧ c ≤ maxLen ∧ (A = none → n = 0 ∧ c = 0) ∧ ∀ i, i < n → ∃ (b o : Nat) (cs : List Value) (m : Nat), A = some ⟨b, o, none⟩ ∧ cs.length = fs.size ∧
      (∀ j u, cs[j]? = some u → w.cell? ⟨b, o + i * fs.size + j, none⟩ = some u) ∧ ∀ (j : Nat) (f : Field), fs[j]? = some f → ∃ u y, cs[j]? = some u ∧ DataW.trod enc P w base spare held m f.type [u] = some y ∧ Sized P f.type y.1 := by
  rcases open_slice_fields ht he hone hC h with ⟨hcs, _⟩ | ⟨a, len, cap, m, D, Pl, hcs, _, hl, hm, hmm, hx, hi⟩
  · exact ⟨none, 0, 0, by simpa using hcs, Nat.le_refl _, by simp [maxLen], fun _ => ⟨rfl, rfl⟩, fun i hi => by omega⟩
  · refine ⟨some a, len, cap, by simpa using hcs, hl, hm, (fun h => by cases h), fun i hil => ?_⟩
    have him : i < m := by rw [hmm]; split <;> omega
    obtain ⟨ys, n', hDi, _, hyl, hf⟩ := hi i him
    simp only [Prod.mk.injEq] at hx
    rw [hx.1] at hs
    have hsi : Sized P e (.agg (ys.map (·.1))) := hDi ▸ hs.elem ht (List.mem_map.2 ⟨i, List.mem_range.2 hil, rfl⟩)
    have hspot : a.spot = none := by
      obtain ⟨ys0, n0, _, _, _, hf0⟩ := hi 0 (by omega)
      obtain ⟨u, y, hc, _⟩ := hf0 0 _ (Array.getElem?_eq_getElem hpos)
      have : (a.add (0 * fs.size + 0)) = a := by simp [Addr.add]
      rw [this] at hc
      obtain ⟨b, o, sp⟩ := a
      exact World.cell?_spot hc
    obtain ⟨b, o, sp⟩ := a
    dsimp only at hspot
    subst hspot
    have hadd : ∀ k, (⟨b, o, none⟩ : Addr).add k = ⟨b, o + k, none⟩ := fun k => by unfold Addr.add; split <;> simp_all
    refine ⟨b, o, (List.range fs.size).map fun j => (w.cell? ⟨b, o + i * fs.size + j, none⟩).getD undef, n', rfl, by simp, fun j u hu => ?_, fun j f hj => ?_⟩
    · simp only [List.getElem?_map] at hu
      by_cases hjl : j < fs.size
      · obtain ⟨u', y, hc, _⟩ := hf j _ (Array.getElem?_eq_getElem hjl)
        rw [hadd, ← Nat.add_assoc] at hc
        rw [List.getElem?_range hjl] at hu
        simp only [Option.map_some, hc, Option.getD_some, Option.some.injEq] at hu
        rw [hc, hu]
      · rw [List.getElem?_eq_none (by simpa using hjl)] at hu
        cases hu
    · have hjl : j < fs.size := (Array.getElem?_eq_some_iff.1 hj).1
      obtain ⟨u', y, hc, hy, ht'⟩ := hf j f hj
      rw [hadd, ← Nat.add_assoc] at hc
      exact ⟨u', y, by rw [List.getElem?_map, List.getElem?_range hjl]; simp [hc], ht', hsi.field he hj (by rw [List.getElem?_map, hy]; rfl)⟩
theorem sized_ints {k : IntKind} {A : Option Addr} {n c : Nat} {d : DataW H} {p : List MemPlace} (hu : P.underlying t = some (.slice e)) (he : P.underlying e = some (.int k)) (hc : P.cellsOf e = 1) (hb : P.bytesOf e = 1)
    (h : DataW.trod enc P w base spare held fuel t [.slice A n c] = some (d, p)) (hs : Sized P t d) : n ≤ reachBytes := by
  rcases open_ints hu he hc h with ⟨hcs, _⟩ | ⟨a, len, cap, zs, hcs, _, hl, hm, hz, hx, _⟩
  · simp only [List.cons.injEq, Value.slice.injEq, and_true] at hcs
    rw [hcs.2.1]
    exact Nat.zero_le _
  · simp only [List.cons.injEq, Value.slice.injEq, and_true] at hcs
    simp only [Prod.mk.injEq] at hx
    rw [hx.1] at hs
    have h1 := hs _ (by rw [DataW.weights, hu]; exact List.mem_cons_self ..)
    rw [hb, Nat.mul_one] at h1
    have h2 : len ≤ zs.length := by rw [hz]; split <;> omega
    have h3 : (lits (H := H) k (zs.take len)).length = len := by simp [lits]; omega
    omega
/-- Rows of three integers and bytes, all within the reach. -/
theorem in_ents_sized {e3 : TypeId} {f0 f1 f2 f3 : Field} {d : DataW H} {p : List MemPlace}
    (ht : P.underlying t = some (.slice e)) (he : P.underlying e = some (.struct #[f0, f1, f2, f3])) (hone : oneCellFields P #[f0, f1, f2, f3] = true) (hC : P.cellsOf e = 4)
    (h0 : P.underlying f0.type = some (.int .i64)) (h1 : P.underlying f1.type = some (.int .i64)) (h2 : P.underlying f2.type = some (.int .i64)) (h3 : P.underlying f3.type = some (.slice e3)) (h4 : P.underlying e3 = some (.int .u8)) (h5 : P.cellsOf e3 = 1) (h6 : P.bytesOf e3 = 1)
    (h : DataW.trod enc P w base spare held fuel t [v] = some (d, p)) (hs : Sized P t d) :
    ∃ A n c, ∃ L : List Er, v = .slice A n c ∧ Rd w T 4 A n (flat ecell L) ∧ L.length = n ∧ n ≤ c ∧ c ≤ maxLen ∧ (A = none → n = 0 ∧ c = 0) ∧ Dat w L ∧ ∀ y ∈ L, W64 y ∧ y.n ≤ reachBytes := by
  obtain ⟨A, n, c, hv, hnc, hcm, haz, hrow⟩ := in_rows_sized ht he hone hC (by simp) h hs
  obtain ⟨L, k1, k2, k3⟩ := rd_of_rows (A := A) (n := n) (w := w) ecell_len (by omega) (fun y => (Rd w T 1 y.A y.n (bs y.d) ∧ y.n ≤ y.m ∧ y.m ≤ maxLen) ∧ W64 y ∧ y.n ≤ reachBytes) (by
    intro i hi
    obtain ⟨b, o, cs, m, hA, hl, hc, hf⟩ := hrow i hi
    obtain ⟨u0, y0, g0, q0, -⟩ := hf 0 _ rfl
    obtain ⟨u1, y1, g1, q1, -⟩ := hf 1 _ rfl
    obtain ⟨u2, y2, g2, q2, -⟩ := hf 2 _ rfl
    obtain ⟨u3, ⟨y3, p3⟩, g3, q3, s3⟩ := hf 3 _ rfl
    obtain ⟨z0, rfl, w0⟩ := in_int h0 q0
    obtain ⟨z1, rfl, w1⟩ := in_int h1 q1
    obtain ⟨z2, rfl, w2⟩ := in_int h2 q2
    obtain ⟨B, m', d, l, rfl, hr, hmd, hdm, _⟩ := in_bytes h3 h4 h5 q3
    have hsz := sized_ints h3 h4 h5 h6 q3 s3
    refine ⟨⟨z0, z1, z2, B, m', d, l⟩, ⟨⟨hr, hmd, hdm⟩, ⟨i64_of_wf w0, i64_of_wf w1, i64_of_wf w2⟩, hsz⟩, b, o, hA, fun j u hj => ?_⟩
    match j, hj with
    | 0, hj => obtain rfl := Option.some.inj hj; exact hc 0 _ g0
    | 1, hj => obtain rfl := Option.some.inj hj; exact hc 1 _ g1
    | 2, hj => obtain rfl := Option.some.inj hj; exact hc 2 _ g2
    | 3, hj => obtain rfl := Option.some.inj hj; exact hc 3 _ g3)
  exact ⟨A, n, c, L, hv, k1, k2, hnc, hcm, haz, fun y hy => (k3 y hy).1, fun y hy => (k3 y hy).2⟩
end
end Go.Proofs.YtmhaahcbmdhinaaGreatDoor
namespace Go.Proofs.YtmhaahcbmdhinaaGreatDoor
open Go.ChangeShapes Go.WideShapes Go.ChangeAt Go.RowKit Go.Joins Go.Deep
set_option linter.unusedVariables false
set_option linter.unusedSimpArgs false
def scell (s : Sv) : List Value := [.int .i64 s.tm, .int .i64 s.vt, .int .i64 s.b, .int .i64 s.t, .slice s.A s.n s.c, .slice s.C s.nc s.cc, .slice s.S s.ns s.cs]
theorem scell_len (s : Sv) : (scell s).length = 7 := rfl
def Sv.I (s : Sv) : Prop := (I64 s.tm ∧ I64 s.vt ∧ I64 s.b ∧ I64 s.t) ∧ ∀ y ∈ s.L, W64 y ∧ y.n ≤ reachBytes
theorem seven {l : List Value} (h : l.length = 7) : ∃ a b c d e f g, l = [a, b, c, d, e, f, g] := by
  match l, h with
  | [a, b, c, d, e, f, g], _ => exact ⟨a, b, c, d, e, f, g, rfl⟩
section
variable {H : Type} {enc : TypeId × Value → H} {w : World} {base : Nat} {spare : Nat → Bool} {held : Bool} {fuel : Nat} {v : Value} {dd : DataW H} {pp : List MemPlace}
theorem in_sv {cs : List Value} (h : DataW.trod enc Tryz.prog w base spare held fuel 28 cs = some (dd, pp)) (hs : Sized Tryz.prog 28 dd) : ∃ s : Sv, cs = scell s ∧ s.At w T ∧ s.I := by
  obtain ⟨ys, n, _, hx, hlen, hyl, hf⟩ := DataW.trod_struct Tryz.underlying28 h
  obtain ⟨a, b, c, d, e, f, g, rfl⟩ := seven (hlen.trans (by kernel_rfl))
  have c1 : Tryz.prog.cellsOf 3 = 1 := by kernel_rfl
  have c3 : Tryz.prog.cellsOf 24 = 3 := by kernel_rfl
  have ci : Tryz.prog.cellsOf 25 = 1 := by kernel_rfl
  have cb : Tryz.prog.cellsOf 26 = 1 := by kernel_rfl
  have some_ : ∀ i, i < 5 → ∃ y, ys[i]? = some y := fun i hi => ⟨_, List.getElem?_eq_getElem (by rw [show ys.length = 5 from hyl]; exact hi)⟩
  have h0 : DataW.trod enc Tryz.prog w base spare held n 3 ((([a, b, c, d, e, f, g] : List Value).drop 0).take (Tryz.prog.cellsOf 3)) = ys[0]? := hf 0 _ rfl
  have h1 : DataW.trod enc Tryz.prog w base spare held n 3 ((([a, b, c, d, e, f, g] : List Value).drop 1).take (Tryz.prog.cellsOf 3)) = ys[1]? := hf 1 _ rfl
  have h2 : DataW.trod enc Tryz.prog w base spare held n 24 ((([a, b, c, d, e, f, g] : List Value).drop 2).take (Tryz.prog.cellsOf 24)) = ys[2]? := hf 2 _ rfl
  have h3 : DataW.trod enc Tryz.prog w base spare held n 25 ((([a, b, c, d, e, f, g] : List Value).drop 5).take (Tryz.prog.cellsOf 25)) = ys[3]? := hf 3 _ rfl
  have h4 : DataW.trod enc Tryz.prog w base spare held n 26 ((([a, b, c, d, e, f, g] : List Value).drop 6).take (Tryz.prog.cellsOf 26)) = ys[4]? := hf 4 _ rfl
  rw [c1] at h0 h1
  rw [c3] at h2
  rw [ci] at h3
  rw [cb] at h4
  simp only [List.drop_zero, List.drop_succ_cons, List.take_succ_cons, List.take_zero] at h0 h1 h2 h3 h4
  obtain ⟨y0, e0⟩ := some_ 0 (by omega)
  obtain ⟨y1, e1⟩ := some_ 1 (by omega)
  obtain ⟨y2, e2⟩ := some_ 2 (by omega)
  obtain ⟨y3, e3⟩ := some_ 3 (by omega)
  obtain ⟨y4, e4⟩ := some_ 4 (by omega)
  rw [e0] at h0
  rw [e1] at h1
  rw [e2] at h2
  rw [e3] at h3
  rw [e4] at h4
  rw [show dd = _ from congrArg Prod.fst hx] at hs
  have s2 : Sized Tryz.prog 24 y2.1 := hs.field Tryz.underlying28 (j := 2) rfl (by rw [List.getElem?_map, e2]; rfl)
  obtain ⟨zs, m, _, hx2, _, lz, hg⟩ := DataW.trod_struct Tryz.underlying24 h2
  rw [show y2.1 = _ from congrArg Prod.fst hx2] at s2
  have some3 : ∀ i, i < 3 → ∃ y, zs[i]? = some y := fun i hi => ⟨_, List.getElem?_eq_getElem (by rw [show zs.length = 3 from lz]; exact hi)⟩
  have ce : Tryz.prog.cellsOf 22 = 1 := by kernel_rfl
  have k0 : DataW.trod enc Tryz.prog w base spare held m 3 ((([c, d, e] : List Value).drop 0).take (Tryz.prog.cellsOf 3)) = zs[0]? := hg 0 _ rfl
  have k1 : DataW.trod enc Tryz.prog w base spare held m 3 ((([c, d, e] : List Value).drop 1).take (Tryz.prog.cellsOf 3)) = zs[1]? := hg 1 _ rfl
  have k2 : DataW.trod enc Tryz.prog w base spare held m 22 ((([c, d, e] : List Value).drop 2).take (Tryz.prog.cellsOf 22)) = zs[2]? := hg 2 _ rfl
  rw [c1] at k0 k1
  rw [ce] at k2
  simp only [List.drop_zero, List.drop_succ_cons, List.take_succ_cons, List.take_zero] at k0 k1 k2
  obtain ⟨x0, q0⟩ := some3 0 (by omega)
  obtain ⟨x1, q1⟩ := some3 1 (by omega)
  obtain ⟨x2, q2⟩ := some3 2 (by omega)
  rw [q0] at k0
  rw [q1] at k1
  rw [q2] at k2
  have s3 : Sized Tryz.prog 22 x2.1 := s2.field Tryz.underlying24 (j := 2) rfl (by rw [List.getElem?_map, q2]; rfl)
  obtain ⟨x2d, x2p⟩ := x2
  obtain ⟨z0, rfl, w0⟩ := in_int Tryz.underlying3 h0
  obtain ⟨z1, rfl, w1⟩ := in_int Tryz.underlying3 h1
  obtain ⟨z2, rfl, w2⟩ := in_int Tryz.underlying3 k0
  obtain ⟨z3, rfl, w3⟩ := in_int Tryz.underlying3 k1
  obtain ⟨A, nA, cA, L, rfl, r1, _, n1, n2, _, dt, wt⟩ := in_ents_sized Tryz.underlying22 Tryz.underlying104 (by kernel_rfl) (by kernel_rfl) Tryz.underlying3 Tryz.underlying3 Tryz.underlying3 Tryz.underlying26 Tryz.underlying5 (by kernel_rfl) (by kernel_rfl) k2 s3
  obtain ⟨C, nC, cC, cf, rfl, r2, n3, n4, _, _⟩ := in_ints Tryz.underlying25 Tryz.underlying3 (by kernel_rfl) h3
  obtain ⟨S, nS, cS, sn, rfl, r3, n5, n6, _⟩ := in_bytes Tryz.underlying26 Tryz.underlying5 (by kernel_rfl) h4
  exact ⟨⟨z0, z1, z2, z3, A, nA, cA, L, C, nC, cC, cf, S, nS, cS, sn⟩, rfl, ⟨r1, fun y hy => dt y hy, r2, r3, ⟨n1, n2⟩, ⟨n3, n4⟩, ⟨n5, n6⟩⟩, ⟨i64_of_wf w0, i64_of_wf w1, i64_of_wf w2, i64_of_wf w3⟩, wt⟩
end
end Go.Proofs.YtmhaahcbmdhinaaGreatDoor
