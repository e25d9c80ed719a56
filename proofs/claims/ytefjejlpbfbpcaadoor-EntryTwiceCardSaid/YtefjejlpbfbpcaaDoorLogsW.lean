/- Walk of tollbarlaw09.EntryLogs. (Printed by mklogs.py.) -/
import Derived.Test.YtefjejlpbfbpcaaDoorCompW
import Derived.Test.YtefjejlpbfbpcaaDoorAt
import Derived.Test.YtefjejlpbfbpcaaDoorSched
namespace Go.Proofs.YtefjejlpbfbpcaaDoor
open Go.RowKit
set_option maxRecDepth 100000
set_option linter.unusedVariables false
set_option linter.unusedSimpArgs false
theorem cvB {W : World} {ok : Nat → Prop} {A : Option Addr} {n : Nat} {l : List UInt8} (h : Rd W ok 1 A n (bs l)) (c : Nat) : (convert 36 9 (.slice A n c)).run Tryd.prog W = .ok (.string ⟨l.toArray⟩) W :=
  conv_bytes 36 9 5 Tryd.underlying36 Tryd.underlying5 Tryd.underlying9 h
theorem atL_wt {b t ix : Int} {l : List En} : WtE (atL b t l ix).2 := by
  have hz : WtE zE := by unfold WtE zE; simp
  unfold atL
  split
  · exact hz
  · split
    · exact hz
    · split
      · exact hz
      · rename_i h _ _
        simp only [Bool.not_eq_false] at h
        cases he : l[(ix - b - 1).toNat]? with
        | none => exact hz
        | some e => exact lmay_wtE h e (List.mem_of_getElem? he)
theorem wt1 {x : Er} {w : World} {ok : Nat → Prop} (h : WtE (en x)) (hr : Rd w ok 1 x.A x.n (bs x.d)) : Wt x := by
  have h2 := hr.blen
  have e1 : (en x).a = x.a := rfl
  have e2 : (en x).b = x.b := rfl
  have e3 : (en x).c = x.c := rfl
  have e4 : (en x).d = x.d := rfl
  unfold WtE at h
  rw [e1, e2, e3, e4] at h
  unfold Wt
  omega
set_option maxHeartbeats 6400000 in
theorem logs_walk (b t ix : Int) (A : Option Addr) (n c : Nat) (L : List Er) (w : World) (hr : Rd w T 4 A n (flat ecell L)) (hd : Dat w L) (hw : ∀ y ∈ L, W64 y ∧ y.n ≤ 140737488351232) (hn : n ≤ 9223372036854775807) (hix : I64 ix) (htab : TabW w) (hg : ErrT w) :
    Calls Tryd.prog 7 #[.agg #[.int .i64 b, .int .i64 t, .slice A n c], .int .i64 ix] w (YesPost w) := by
  obtain ⟨W0, hW0⟩ : ∃ W0, W0 = w.alloc (.cells #[.int .i64 b, .int .i64 t, .slice A n c] 24) := ⟨_, rfl⟩
  have bx0 : Bx W0 w.heap.size #[.int .i64 b, .int .i64 t, .slice A n c] := by subst hW0; exact Bx.new _ _ _ rfl
  have hb0 : Below w.heap.size w W0 := by subst hW0; exact (Below.refl _ _).alloc (Nat.le_refl _) _
  have r0 : Rd W0 T 4 A n (flat ecell L) := by subst hW0; exact hr.alloc _
  have d0 : Dat W0 L := hd.below (by subst hW0; exact (Below.refl _ _).alloc (Nat.le_refl _) _)
  have t0 : TabW W0 := htab.below hb0 (Nat.le_refl _)
  have g0 : ErrT W0 := hg.below hb0
  have hwl : Wel L := fun y hy => ⟨(hw y hy).1, ((hd y hy).1.blen).symm⟩
  have sof : ∀ W, Below W0.heap.size W0 W → (W.cell? ⟨w.heap.size, 0, none⟩ = some (.int .i64 b) ∧ W.cell? ⟨w.heap.size, 1, none⟩ = some (.int .i64 t) ∧ W.cell? ⟨w.heap.size, 2, none⟩ = some (.slice A n c)) := fun W h => ⟨(bx0.below h).c 0, (bx0.below h).c 1, (bx0.below h).c 2⟩
  have hlg := longs_any A n c L W0 r0 (fun x hx => (hw x hx).2) hn
  obtain ⟨lg, hlgv⟩ : ∃ lg, longB L = lg := ⟨_, rfl⟩
  rw [hlgv] at hlg
  have hup : ∀ W W', Below W0.heap.size W0 W → Below W.heap.size W W' → Below W0.heap.size W0 W' := fun W W' h h' => h.trans (h'.mono h.size)
  have Hb0 := Lib.hid hb0
  have Sof := Lib.hid sof
  have HW := Lib.hid hW0
  have Hlg := Lib.hid hlg
  have Hup := Lib.hid hup
  cases lg
  · obtain ⟨hl1, hl2⟩ := longB_no hlgv
    have hlen := hr.flen ecell_len (by omega)
    have hn2 : n ≤ 200 := by omega
    have hs : ∀ x ∈ L, x.n ≤ 1000000 := fun x hx => by have := hl2 x hx; omega
    obtain ⟨q, hq⟩ : ∃ q, lmay b t (L.map en) = q := ⟨_, rfl⟩
    obtain ⟨zA, hzA⟩ : ∃ z, (if q then lstA b (L.map en) else 0) = z := ⟨_, rfl⟩
    obtain ⟨zB, hzB⟩ : ∃ z, (if q then lstB t (L.map en) else 0) = z := ⟨_, rfl⟩
    obtain ⟨R, hR⟩ : ∃ R, compL b t (L.map en) ix = R := ⟨_, rfl⟩
    obtain ⟨E, hE⟩ : ∃ E, atL b t (L.map en) ix = E := ⟨_, rfl⟩
    have hEw : WtE E.2 := hE ▸ atL_wt
    have hgv := fun (W : World) (h : Below W0.heap.size W0 W) => giveLog_any b t A n c L W (r0.below h) (d0.below h) hs (by omega)
    have hwd : ∀ (W : World) (L' : List Er), Dat W L' → L'.map en = L.map en → Wel L' ∧ ∀ x ∈ L', x.n ≤ 1000000 := fun W L' d hsm => wel_mem hwl hs (fun y hy => by rw [← hsm]; exact List.mem_map.2 ⟨y, hy, rfl⟩) d
    have hlast : ∀ (W : World) A' c' (L' : List Er), Rd W T 4 A' n (flat ecell L') → Dat W L' → L'.map en = L.map en → Calls Tryd.prog 24 #[.agg #[.int .i64 b, .int .i64 t, .slice A' n c']] W (TwoInt W zA zB) := fun W A' c' L' r d hsm => by
      have := LastA_any b t A' n c' L' W r (hwd W L' d hsm).1 (by omega)
      rw [hsm, hq, hzA, hzB] at this
      exact this
    have hlastR : ∀ (W : World), Below W0.heap.size W0 W → Calls Tryd.prog 25 #[.agg #[.int .i64 b, .int .i64 t, .slice A n c]] W (TwoInt W zA zB) := fun W h => by
      have := lastR_any b t A n c L W (r0.below h) hwl (by omega)
      rw [hq, hzA, hzB] at this
      exact this
    have hterm : ∀ (W : World) A' c' (L' : List Er), Rd W T 4 A' n (flat ecell L') → Dat W L' → L'.map en = L.map en → Calls Tryd.prog 19 #[.agg #[.int .i64 b, .int .i64 t, .slice A' n c'], .int .i64 ix] W (TermPost W R) := fun W A' c' L' r d hsm => by
      have := TermA_any b t ix A' n c' L' W r (hwd W L' d hsm).1 (by omega)
      rw [hsm, hR] at this
      exact this
    have htermR : ∀ (W : World), Below W0.heap.size W0 W → Calls Tryd.prog 26 #[.agg #[.int .i64 b, .int .i64 t, .slice A n c], .int .i64 ix] W (TwoInt W R.2 R.1) := fun W h => by
      have := termR_any b t ix A n c L W (r0.below h) hwl (by omega)
      rw [hR] at this
      exact this
    have hat : ∀ (W : World) A' c' (L' : List Er), Rd W T 4 A' n (flat ecell L') → Dat W L' → L'.map en = L.map en → Calls Tryd.prog 27 #[.agg #[.int .i64 b, .int .i64 t, .slice A' n c'], .int .i64 ix] W (AtPost W errC E) := fun W A' c' L' r d hsm => by
      have := at_any b t ix A' n c' L' W r d (hwd W L' d hsm).2 (hwd W L' d hsm).1 (by omega)
      rw [hsm, hE] at this
      exact this
    have hatR : ∀ (W : World), Below W0.heap.size W0 W → Calls Tryd.prog 28 #[.agg #[.int .i64 b, .int .i64 t, .slice A n c], .int .i64 ix] W (AtPost W (Value.int .i64) E) := fun W h => by
      have := atR_any b t ix A n c L W (r0.below h) (d0.below h) hs hwl (by omega)
      rw [hE] at this
      exact this
    have hchk : ∀ (W : World) A' c' (L' : List Er), Rd W T 4 A' n (flat ecell L') → Dat W L' → L'.map en = L.map en → Calls Tryd.prog 20 #[.agg #[.int .i64 b, .int .i64 t, .slice A' n c']] W (fun e w' => e = .returned (errC (if q then 0 else 1)) ∧ Below W.heap.size W w') := fun W A' c' L' r d hsm => by
      have := check_any b t A' n c' L' W r (hwd W L' d hsm).1 (by omega)
      rw [hsm, hq] at this
      exact this
    have hmayR : ∀ (W : World), Below W0.heap.size W0 W → Calls Tryd.prog 18 #[.agg #[.int .i64 b, .int .i64 t, .slice A n c]] W (BoolPost W q) := fun W h => by
      have := mayR_any b t A n c L W (r0.below h) hwl (by omega)
      rw [hq] at this
      exact this
    have hnum := fun (W : World) (h : Below W0.heap.size W0 W) k => num_errC k W (g0.below h)
    have henc := fun (W : World) (h : Below W0.heap.size W0 W) (x : Er) (he : en x = E.2) (hr : Rd W T 1 x.A x.n (bs x.d)) => enc_er x W (wt1 (he ▸ hEw) hr) hr (t0.below h (Nat.le_refl _))
    have hencR := fun (W : World) (h : Below W0.heap.size W0 W) (x : Er) (he : en x = E.2) (hr : Rd W T 1 x.A x.n (bs x.d)) => encR_er x W (wt1 (he ▸ hEw) hr) hr
    have Hgv := Lib.hid hgv
    have Hlast := Lib.hid hlast
    have HlastR := Lib.hid hlastR
    have Hterm := Lib.hid hterm
    have HtermR := Lib.hid htermR
    have Hat := Lib.hid hat
    have HatR := Lib.hid hatR
    have Hchk := Lib.hid hchk
    have HmayR := Lib.hid hmayR
    have Hnum := Lib.hid hnum
    have Henc := Lib.hid henc
    have HencR := Lib.hid hencR
    clear hr hd hw hW0 bx0 hb0 r0 d0 t0 g0 hwl sof hlg hl2 hlgv hs htab hg hup hlen hwd hEw hq hzA hzB hR hE hgv hlast hlastR hterm htermR hat hatR hchk hmayR hnum henc hencR
    go_enter Tryd.func7, Tryd.ntmps7
    go_wp2_with fail
    rw [← HW.out]
    refine Hlg.out.mono ?_
    rintro e w1 ⟨rfl, hb1⟩
    obtain ⟨u0, u1, u2⟩ := Sof.out _ hb1
    go_wp2_with fail
    refine (Hgv.out _ hb1).mono ?_
    rintro e w2 ⟨A2, c2, L2, rfl, r2, d2, m2, n2, x2, hb2⟩
    have k2 := Hup.out _ _ hb1 hb2
    clear u0 u1 u2 hb2 hb1
    obtain ⟨W3, hW3⟩ : ∃ W3, W3 = w2.alloc (.cells #[.int .i64 b, .int .i64 t, .slice A2 n c2] 31) := ⟨_, rfl⟩
    obtain ⟨gx, hgx⟩ : ∃ g, g = w2.heap.size := ⟨_, rfl⟩
    have bx3 : Bx W3 gx #[.int .i64 b, .int .i64 t, .slice A2 n c2] := by subst hW3 hgx; exact Bx.new _ _ _ rfl
    have dd3 : Below w2.heap.size w2 W3 := by subst hW3; exact (Below.refl _ _).alloc (Nat.le_refl _) _
    have k3 := Hup.out _ _ k2 dd3
    have up3 : ∀ W W', Below W3.heap.size W3 W → Below W.heap.size W W' → Below W3.heap.size W3 W' := fun W W' h h' => h.trans (h'.mono h.size)
    have F3 := Lib.hid (fun W (h : Below W3.heap.size W3 W) => And.intro (Sof.out W (Hup.out _ _ k3 h)) (And.intro ((bx3.below h).c 0) (And.intro ((bx3.below h).c 1) ((bx3.below h).c 2))))
    have D3 := Lib.hid (fun W (h : Below W3.heap.size W3 W) => And.intro ((r2.below dd3).below h) (And.intro ((Dat.below d2 dd3).below h) (show L2.map en = L.map en from m2)))
    have K3 := Lib.hid k3
    have Up3 := Lib.hid up3
    have HW3 := Lib.hid hW3
    have Hgx := Lib.hid hgx
    clear r2 d2 m2 n2 x2 hgx hW3 bx3 dd3 k2 k3 up3
    go_upto_region 4 with (fail)
    rw [← Hgx.out, ← HW3.out]
    have j3 : Below W3.heap.size W3 W3 := Below.refl _ _
    obtain ⟨⟨a0, a1, a2⟩, a3, a4, a5⟩ := F3.out _ j3
    go_wp2_with fail
    refine (Hlast.out _ A2 c2 L2 (D3.out _ j3).1 (D3.out _ j3).2.1 (D3.out _ j3).2.2).mono ?_
    rintro e w4 ⟨rfl, h4⟩
    have j4 := Up3.out _ _ j3 h4
    clear a0 a1 a2 a3 a4 a5 h4
    obtain ⟨⟨a0, a1, a2⟩, a3, a4, a5⟩ := F3.out _ j4
    go_wp2_with fail
    refine (HlastR.out _ (Hup.out _ _ K3.out j4)).mono ?_
    rintro e w5 ⟨rfl, h5⟩
    have j5 := Up3.out _ _ j4 h5
    clear a0 a1 a2 a3 a4 a5 h5 j4
    obtain ⟨⟨a0, a1, a2⟩, a3, a4, a5⟩ := F3.out _ j5
    go_wp2_with fail
    refine (Hterm.out _ A2 c2 L2 (D3.out _ j5).1 (D3.out _ j5).2.1 (D3.out _ j5).2.2).mono ?_
    rintro e w6 ⟨rfl, h6⟩
    have j6 := Up3.out _ _ j5 h6
    clear a0 a1 a2 a3 a4 a5 h6 j5
    obtain ⟨⟨a0, a1, a2⟩, a3, a4, a5⟩ := F3.out _ j6
    go_wp2_with fail
    refine (HtermR.out _ (Hup.out _ _ K3.out j6)).mono ?_
    rintro e w7 ⟨rfl, h7⟩
    have j7 := Up3.out _ _ j6 h7
    clear a0 a1 a2 a3 a4 a5 h7 j6
    obtain ⟨⟨a0, a1, a2⟩, a3, a4, a5⟩ := F3.out _ j7
    go_wp2_with fail
    refine (Hat.out _ A2 c2 L2 (D3.out _ j7).1 (D3.out _ j7).2.1 (D3.out _ j7).2.2).mono ?_
    rintro e w8 ⟨x8, rfl, en8, r8, z8, h8⟩
    unfold ecA
    have j8 := Up3.out _ _ j7 h8
    clear a0 a1 a2 a3 a4 a5 h8 j7
    obtain ⟨W9, hW9⟩ : ∃ W9, W9 = w8.alloc (.cells #[.int .i64 x8.a, .int .i64 x8.b, .int .i64 x8.c, .slice x8.A x8.n x8.m] 39) := ⟨_, rfl⟩
    obtain ⟨gy, hgy⟩ : ∃ g, g = w8.heap.size := ⟨_, rfl⟩
    have bx9 : Bx W9 gy #[.int .i64 x8.a, .int .i64 x8.b, .int .i64 x8.c, .slice x8.A x8.n x8.m] := by subst hW9 hgy; exact Bx.new _ _ _ rfl
    have dd9 : Below w8.heap.size w8 W9 := by subst hW9; exact (Below.refl _ _).alloc (Nat.le_refl _) _
    have j9 := Up3.out _ _ j8 dd9
    have r9 := r8.below dd9
    have HW9 := Lib.hid hW9
    have Hgy := Lib.hid hgy
    have BX9 := Lib.hid (And.intro bx9 (And.intro r9 en8))
    clear hW9 hgy bx9 dd9 j8 r8 r9 en8 z8
    go_upto_region 9 with (fail)
    rw [← Hgy.out, ← HW9.out]
    obtain ⟨⟨a0, a1, a2⟩, a3, a4, a5⟩ := F3.out _ j9
    go_wp2_with fail
    refine (HatR.out _ (Hup.out _ _ K3.out j9)).mono ?_
    rintro e wa ⟨xa, rfl, ena, ra, za, ha⟩
    unfold ecA
    have ja := Up3.out _ _ j9 ha
    obtain ⟨Wb, hWb⟩ : ∃ Wb, Wb = wa.alloc (.cells #[.int .i64 xa.a, .int .i64 xa.b, .int .i64 xa.c, .slice xa.A xa.n xa.m] 47) := ⟨_, rfl⟩
    obtain ⟨gz, hgz⟩ : ∃ g, g = wa.heap.size := ⟨_, rfl⟩
    have bxb : Bx Wb gz #[.int .i64 xa.a, .int .i64 xa.b, .int .i64 xa.c, .slice xa.A xa.n xa.m] := by subst hWb hgz; exact Bx.new _ _ _ rfl
    have ddb : Below wa.heap.size wa Wb := by subst hWb; exact (Below.refl _ _).alloc (Nat.le_refl _) _
    have jb := Up3.out _ _ ja ddb
    have e9 : Below W9.heap.size W9 Wb := ha.trans (ddb.mono ha.size)
    have Kb := Lib.hid (Hup.out _ _ K3.out jb)
    have Jb := Lib.hid jb
    have Fb := Lib.hid (fun W (h : Below Wb.heap.size Wb W) => And.intro (F3.out W (jb.trans (h.mono jb.size))) (And.intro ((BX9.out.1.below (e9.trans (h.mono e9.size))).c4) ((bxb.below h).c4)))
    have Db := Lib.hid (fun W (h : Below Wb.heap.size Wb W) => And.intro (D3.out W (jb.trans (h.mono jb.size))) (And.intro (And.intro (BX9.out.2.1.below (e9.trans (h.mono e9.size))) BX9.out.2.2) (And.intro ((ra.below ddb).below h) ena)))
    have HWb := Lib.hid hWb
    have Hgz := Lib.hid hgz
    have upb : ∀ W W', Below Wb.heap.size Wb W → Below W.heap.size W W' → Below Wb.heap.size Wb W' := fun W W' h h' => h.trans (h'.mono h.size)
    have Upb := Lib.hid upb
    clear a0 a1 a2 a3 a4 a5 ha j9 hWb hgz bxb ddb ja jb e9 ra ena za upb BX9
    go_upto_region 10 with (fail)
    rw [← Hgz.out, ← HWb.out]
    have ho : Below Wb.heap.size Wb Wb.drew := (Below.refl _ _).drew
    cases q
    · refine wp_region_S 45 (fun W => Below Wb.heap.size Wb W) (.take 0 (.take 3 (.one 1 (.take 2 (.one 4 (.take 5 (.take 6 (.take 7 (.take 8 (.take 9 (.take 10 (.take 11 (.take 12 (.take 13 (.take 14 (.take 15 (.take 16 (.take 17 (.take 18 (.take 19 (.take 20 (.take 21 (.take 22 (.take 24 (.one 23 (.take 25 (.take 26 (.take 27 (.take 28 (.take 31 (.one 29 (.take 30 (.one 32 (.take 33 (.take 34 (.take 35 (.take 36 (.take 37 (.take 39 (.one 38 (.take 40 (.take 41 (.take 42 (.one 43 (.take 44 (.one 45 (.nil))))))))))))))))))))))))))))))))))))))))))))))) (by kernel_rfl) ho (fun _ _ _ _ h => h) (fun hS => ?_)
      repeat (first
        | (refine wpS_take (v := ?_) rfl rfl (by rfl) ?_ ?_; rotate_left; (intro W hW; have hf := Fb.out W hW; go_split_ands; go_simp; try with_reducible rfl); try simp only [Act.put, List.setIfInBounds_toArray, List.set_cons_zero, List.set_cons_succ])
        | (refine wpS_skip rfl rfl (by rfl) ?_; try simp only [Act.put, List.setIfInBounds_toArray, List.set_cons_zero, List.set_cons_succ]))
      refine wpS_one rfl (by rfl) (fun K hK => ?_)
      go_simp
      go_at_call 20
      refine (Hchk.out _ A2 c2 L2 (Db.out _ hS).1.1 (Db.out _ hS).1.2.1 (Db.out _ hS).1.2.2).mono ?_
      rintro e v1 ⟨rfl, hb1⟩
      have hS1 := Upb.out _ _ hS hb1
      clear hS
      have hS := hS1
      clear hS1 hb1
      rw [show errC (if false = true then 0 else 1) = .iface 83 (.int .i64 1) from rfl]
      refine hK (fun W => Below Wb.heap.size Wb W) _ _ (fun W h => h) hS ?_
      clear hK K
      try simp only [Act.put, List.setIfInBounds_toArray, List.set_cons_zero, List.set_cons_succ]
      repeat (first
        | (refine wpS_take (v := ?_) rfl rfl (by rfl) ?_ ?_; rotate_left; (intro W hW; have hf := Fb.out W hW; go_split_ands; go_simp; try with_reducible rfl); try simp only [Act.put, List.setIfInBounds_toArray, List.set_cons_zero, List.set_cons_succ])
        | (refine wpS_skip rfl rfl (by rfl) ?_; try simp only [Act.put, List.setIfInBounds_toArray, List.set_cons_zero, List.set_cons_succ]))
      refine wpS_one rfl (by rfl) (fun K hK => ?_)
      go_simp
      go_at_call 18
      refine (HmayR.out _ (Hup.out _ _ Kb.out hS)).mono ?_
      rintro e v2 ⟨rfl, hb2⟩
      have hS2 := Upb.out _ _ hS hb2
      clear hS
      have hS := hS2
      clear hS2 hb2
      refine hK (fun W => Below Wb.heap.size Wb W) _ _ (fun W h => h) hS ?_
      clear hK K
      try simp only [Act.put, List.setIfInBounds_toArray, List.set_cons_zero, List.set_cons_succ]
      repeat (first
        | (refine wpS_take (v := ?_) rfl rfl (by rfl) ?_ ?_; rotate_left; (intro W hW; have hf := Fb.out W hW; go_split_ands; go_simp; try with_reducible rfl); try simp only [Act.put, List.setIfInBounds_toArray, List.set_cons_zero, List.set_cons_succ])
        | (refine wpS_skip rfl rfl (by rfl) ?_; try simp only [Act.put, List.setIfInBounds_toArray, List.set_cons_zero, List.set_cons_succ]))
      refine wpS_one rfl (by rfl) (fun K hK => ?_)
      go_simp
      go_at_call 23
      refine (Hnum.out _ (Hup.out _ _ Kb.out hS) R.1).mono ?_
      rintro e v3 ⟨rfl, hb3⟩
      have hS3 := Upb.out _ _ hS hb3
      clear hS
      have hS := hS3
      clear hS3 hb3
      refine hK (fun W => Below Wb.heap.size Wb W) _ _ (fun W h => h) hS ?_
      clear hK K
      try simp only [Act.put, List.setIfInBounds_toArray, List.set_cons_zero, List.set_cons_succ]
      repeat (first
        | (refine wpS_take (v := ?_) rfl rfl (by rfl) ?_ ?_; rotate_left; (intro W hW; have hf := Fb.out W hW; go_split_ands; go_simp; try with_reducible rfl); try simp only [Act.put, List.setIfInBounds_toArray, List.set_cons_zero, List.set_cons_succ])
        | (refine wpS_skip rfl rfl (by rfl) ?_; try simp only [Act.put, List.setIfInBounds_toArray, List.set_cons_zero, List.set_cons_succ]))
      refine wpS_one rfl (by rfl) (fun K hK => ?_)
      go_simp
      go_at_call 13
      refine (Henc.out _ (Hup.out _ _ Kb.out hS) x8 (Db.out _ hS).2.1.2 (Db.out _ hS).2.1.1).mono ?_
      rintro e v4 ⟨A4, n4, c4, rfl, o4, hb4⟩
      have hS4 := Upb.out _ _ hS hb4
      clear hS
      have hS := hS4
      clear hS4 hb4
      have r4 := (Rd.of_own o4).any
      have hS4 := hS
      have F4 := Lib.hid (fun W (h : Below v4.heap.size v4 W) => And.intro (Fb.out W (hS4.trans (h.mono hS4.size))) (cvB (r4.below h) c4))
      have HS4 := Lib.hid hS4
      have R4 := Lib.hid r4
      clear hS o4 r4 hS4
      refine hK (fun W => Below v4.heap.size v4 W) _ _ (fun W h => HS4.out.trans (h.mono HS4.out.size)) (Below.refl _ _) ?_
      clear hK K
      try simp only [Act.put, List.setIfInBounds_toArray, List.set_cons_zero, List.set_cons_succ]
      have hS : Below v4.heap.size v4 v4 := Below.refl _ _
      repeat (first
        | (refine wpS_take (v := ?_) rfl rfl (by rfl) ?_ ?_; rotate_left; (intro W hW; have hf := F4.out W hW; go_split_ands; go_simp; try with_reducible rfl); try simp only [Act.put, List.setIfInBounds_toArray, List.set_cons_zero, List.set_cons_succ])
        | (refine wpS_skip rfl rfl (by rfl) ?_; try simp only [Act.put, List.setIfInBounds_toArray, List.set_cons_zero, List.set_cons_succ]))
      refine wpS_one rfl (by rfl) (fun K hK => ?_)
      go_simp
      go_at_call 29
      refine (HencR.out _ (Hup.out _ _ Kb.out HS4.out) xa (Db.out _ HS4.out).2.2.2 (Db.out _ HS4.out).2.2.1).mono ?_
      rintro e v5 ⟨A5, n5, c5, rfl, o5, hb5⟩
      have hS5 := hS.trans hb5
      have r5 := (Rd.of_own o5).any
      have F5 := Lib.hid (fun W (h : Below v5.heap.size v5 W) => And.intro (F4.out W (hS5.trans (h.mono hS5.size))) (cvB (r5.below h) c5))
      have eE : encE (en xa) = encE (en x8) := by rw [(Db.out _ HS4.out).2.2.2, (Db.out _ HS4.out).2.1.2]
      rw [eE] at F5
      have HS5 := Lib.hid hS5
      have J5 := Lib.hid (HS4.out.trans (hS5.mono HS4.out.size))
      clear hS o5 r5 hS5 hb5 eE
      refine hK (fun W => Below v5.heap.size v5 W) _ _ (fun W h => HS5.out.trans (h.mono HS5.out.size)) (Below.refl _ _) ?_
      clear hK K
      try simp only [Act.put, List.setIfInBounds_toArray, List.set_cons_zero, List.set_cons_succ]
      have hS : Below v5.heap.size v5 v5 := Below.refl _ _
      repeat (first
        | (refine wpS_take (v := ?_) rfl rfl (by rfl) ?_ ?_; rotate_left; (intro W hW; have hf := F5.out W hW; go_split_ands; go_simp; try with_reducible rfl); try simp only [Act.put, List.setIfInBounds_toArray, List.set_cons_zero, List.set_cons_succ])
        | (refine wpS_skip rfl rfl (by rfl) ?_; try simp only [Act.put, List.setIfInBounds_toArray, List.set_cons_zero, List.set_cons_succ]))
      refine wpS_one rfl (by rfl) (fun K hK => ?_)
      go_simp
      go_at_call 23
      refine (Hnum.out _ (Hup.out _ _ Kb.out J5.out) E.1).mono ?_
      rintro e v6 ⟨rfl, hb6⟩
      have hS6 := hS.trans hb6
      clear hS hb6
      refine hK (fun W => Below v5.heap.size v5 W) _ _ (fun W h => h) hS6 ?_
      clear hK K
      try simp only [Act.put, List.setIfInBounds_toArray, List.set_cons_zero, List.set_cons_succ]
      repeat (first
        | (refine wpS_take (v := ?_) rfl rfl (by rfl) ?_ ?_; rotate_left; (intro W hW; have hf := F5.out W hW; go_split_ands; go_simp; try with_reducible rfl); try simp only [Act.put, List.setIfInBounds_toArray, List.set_cons_zero, List.set_cons_succ])
        | (refine wpS_skip rfl rfl (by rfl) ?_; try simp only [Act.put, List.setIfInBounds_toArray, List.set_cons_zero, List.set_cons_succ]))
      refine wpS_one rfl (by rfl) (fun K hK => ?_)
      go_simp
      go_at_call 9
      refine (sure_any _).mono ?_
      rintro e v7 ⟨rfl, hb7⟩
      have hS7 := hS6.trans (hb7.mono hS6.size)
      clear hS6 hb7
      refine hK (fun W => Below v5.heap.size v5 W) _ _ (fun W h => h) hS7 ?_
      clear hK K
      try simp only [Act.put, List.setIfInBounds_toArray, List.set_cons_zero, List.set_cons_succ]
      repeat (first
        | (refine wpS_take (v := ?_) rfl rfl (by rfl) ?_ ?_; rotate_left; (intro W hW; have hf := F5.out W hW; go_split_ands; go_simp; try with_reducible rfl); try simp only [Act.put, List.setIfInBounds_toArray, List.set_cons_zero, List.set_cons_succ])
        | (refine wpS_skip rfl rfl (by rfl) ?_; try simp only [Act.put, List.setIfInBounds_toArray, List.set_cons_zero, List.set_cons_succ]))
      refine wpS_last rfl (by rfl) (fun K hK => ?_)
      go_simp
      refine hK _ _ ?_
      clear hK K
      try simp only [Act.put, List.setIfInBounds_toArray, List.set_cons_zero, List.set_cons_succ]
      refine wpS_nil ?_
      go_wp2_with fail
      go_ret
      have k9 := Hup.out _ _ Kb.out (J5.out.trans (hS7.mono J5.out.size))
      exact ⟨rfl, Hb0.out.trans (k9.mono Hb0.out.size)⟩
    · refine wp_region_S 45 (fun W => Below Wb.heap.size Wb W) (.take 0 (.take 3 (.one 1 (.take 2 (.one 4 (.take 5 (.take 6 (.take 7 (.take 8 (.take 9 (.take 10 (.take 11 (.take 12 (.take 13 (.take 14 (.take 15 (.take 16 (.take 17 (.take 18 (.take 19 (.take 20 (.take 21 (.take 22 (.take 24 (.one 23 (.take 25 (.take 26 (.take 27 (.take 28 (.take 31 (.one 29 (.take 30 (.one 32 (.take 33 (.take 34 (.take 35 (.take 36 (.take 37 (.take 39 (.one 38 (.take 40 (.take 41 (.take 42 (.one 43 (.take 44 (.one 45 (.nil))))))))))))))))))))))))))))))))))))))))))))))) (by kernel_rfl) ho (fun _ _ _ _ h => h) (fun hS => ?_)
      repeat (first
        | (refine wpS_take (v := ?_) rfl rfl (by rfl) ?_ ?_; rotate_left; (intro W hW; have hf := Fb.out W hW; go_split_ands; go_simp; try with_reducible rfl); try simp only [Act.put, List.setIfInBounds_toArray, List.set_cons_zero, List.set_cons_succ])
        | (refine wpS_skip rfl rfl (by rfl) ?_; try simp only [Act.put, List.setIfInBounds_toArray, List.set_cons_zero, List.set_cons_succ]))
      refine wpS_one rfl (by rfl) (fun K hK => ?_)
      go_simp
      go_at_call 20
      refine (Hchk.out _ A2 c2 L2 (Db.out _ hS).1.1 (Db.out _ hS).1.2.1 (Db.out _ hS).1.2.2).mono ?_
      rintro e v1 ⟨rfl, hb1⟩
      have hS1 := Upb.out _ _ hS hb1
      clear hS
      have hS := hS1
      clear hS1 hb1
      rw [show errC (if true = true then 0 else 1) = Value.nilIface from rfl]
      refine hK (fun W => Below Wb.heap.size Wb W) _ _ (fun W h => h) hS ?_
      clear hK K
      try simp only [Act.put, List.setIfInBounds_toArray, List.set_cons_zero, List.set_cons_succ]
      repeat (first
        | (refine wpS_take (v := ?_) rfl rfl (by rfl) ?_ ?_; rotate_left; (intro W hW; have hf := Fb.out W hW; go_split_ands; go_simp; try with_reducible rfl); try simp only [Act.put, List.setIfInBounds_toArray, List.set_cons_zero, List.set_cons_succ])
        | (refine wpS_skip rfl rfl (by rfl) ?_; try simp only [Act.put, List.setIfInBounds_toArray, List.set_cons_zero, List.set_cons_succ]))
      refine wpS_one rfl (by rfl) (fun K hK => ?_)
      go_simp
      go_at_call 18
      refine (HmayR.out _ (Hup.out _ _ Kb.out hS)).mono ?_
      rintro e v2 ⟨rfl, hb2⟩
      have hS2 := Upb.out _ _ hS hb2
      clear hS
      have hS := hS2
      clear hS2 hb2
      refine hK (fun W => Below Wb.heap.size Wb W) _ _ (fun W h => h) hS ?_
      clear hK K
      try simp only [Act.put, List.setIfInBounds_toArray, List.set_cons_zero, List.set_cons_succ]
      repeat (first
        | (refine wpS_take (v := ?_) rfl rfl (by rfl) ?_ ?_; rotate_left; (intro W hW; have hf := Fb.out W hW; go_split_ands; go_simp; try with_reducible rfl); try simp only [Act.put, List.setIfInBounds_toArray, List.set_cons_zero, List.set_cons_succ])
        | (refine wpS_skip rfl rfl (by rfl) ?_; try simp only [Act.put, List.setIfInBounds_toArray, List.set_cons_zero, List.set_cons_succ]))
      refine wpS_one rfl (by rfl) (fun K hK => ?_)
      go_simp
      go_at_call 23
      refine (Hnum.out _ (Hup.out _ _ Kb.out hS) R.1).mono ?_
      rintro e v3 ⟨rfl, hb3⟩
      have hS3 := Upb.out _ _ hS hb3
      clear hS
      have hS := hS3
      clear hS3 hb3
      refine hK (fun W => Below Wb.heap.size Wb W) _ _ (fun W h => h) hS ?_
      clear hK K
      try simp only [Act.put, List.setIfInBounds_toArray, List.set_cons_zero, List.set_cons_succ]
      repeat (first
        | (refine wpS_take (v := ?_) rfl rfl (by rfl) ?_ ?_; rotate_left; (intro W hW; have hf := Fb.out W hW; go_split_ands; go_simp; try with_reducible rfl); try simp only [Act.put, List.setIfInBounds_toArray, List.set_cons_zero, List.set_cons_succ])
        | (refine wpS_skip rfl rfl (by rfl) ?_; try simp only [Act.put, List.setIfInBounds_toArray, List.set_cons_zero, List.set_cons_succ]))
      refine wpS_one rfl (by rfl) (fun K hK => ?_)
      go_simp
      go_at_call 13
      refine (Henc.out _ (Hup.out _ _ Kb.out hS) x8 (Db.out _ hS).2.1.2 (Db.out _ hS).2.1.1).mono ?_
      rintro e v4 ⟨A4, n4, c4, rfl, o4, hb4⟩
      have hS4 := Upb.out _ _ hS hb4
      clear hS
      have hS := hS4
      clear hS4 hb4
      have r4 := (Rd.of_own o4).any
      have hS4 := hS
      have F4 := Lib.hid (fun W (h : Below v4.heap.size v4 W) => And.intro (Fb.out W (hS4.trans (h.mono hS4.size))) (cvB (r4.below h) c4))
      have HS4 := Lib.hid hS4
      have R4 := Lib.hid r4
      clear hS o4 r4 hS4
      refine hK (fun W => Below v4.heap.size v4 W) _ _ (fun W h => HS4.out.trans (h.mono HS4.out.size)) (Below.refl _ _) ?_
      clear hK K
      try simp only [Act.put, List.setIfInBounds_toArray, List.set_cons_zero, List.set_cons_succ]
      have hS : Below v4.heap.size v4 v4 := Below.refl _ _
      repeat (first
        | (refine wpS_take (v := ?_) rfl rfl (by rfl) ?_ ?_; rotate_left; (intro W hW; have hf := F4.out W hW; go_split_ands; go_simp; try with_reducible rfl); try simp only [Act.put, List.setIfInBounds_toArray, List.set_cons_zero, List.set_cons_succ])
        | (refine wpS_skip rfl rfl (by rfl) ?_; try simp only [Act.put, List.setIfInBounds_toArray, List.set_cons_zero, List.set_cons_succ]))
      refine wpS_one rfl (by rfl) (fun K hK => ?_)
      go_simp
      go_at_call 29
      refine (HencR.out _ (Hup.out _ _ Kb.out HS4.out) xa (Db.out _ HS4.out).2.2.2 (Db.out _ HS4.out).2.2.1).mono ?_
      rintro e v5 ⟨A5, n5, c5, rfl, o5, hb5⟩
      have hS5 := hS.trans hb5
      have r5 := (Rd.of_own o5).any
      have F5 := Lib.hid (fun W (h : Below v5.heap.size v5 W) => And.intro (F4.out W (hS5.trans (h.mono hS5.size))) (cvB (r5.below h) c5))
      have eE : encE (en xa) = encE (en x8) := by rw [(Db.out _ HS4.out).2.2.2, (Db.out _ HS4.out).2.1.2]
      rw [eE] at F5
      have HS5 := Lib.hid hS5
      have J5 := Lib.hid (HS4.out.trans (hS5.mono HS4.out.size))
      clear hS o5 r5 hS5 hb5 eE
      refine hK (fun W => Below v5.heap.size v5 W) _ _ (fun W h => HS5.out.trans (h.mono HS5.out.size)) (Below.refl _ _) ?_
      clear hK K
      try simp only [Act.put, List.setIfInBounds_toArray, List.set_cons_zero, List.set_cons_succ]
      have hS : Below v5.heap.size v5 v5 := Below.refl _ _
      repeat (first
        | (refine wpS_take (v := ?_) rfl rfl (by rfl) ?_ ?_; rotate_left; (intro W hW; have hf := F5.out W hW; go_split_ands; go_simp; try with_reducible rfl); try simp only [Act.put, List.setIfInBounds_toArray, List.set_cons_zero, List.set_cons_succ])
        | (refine wpS_skip rfl rfl (by rfl) ?_; try simp only [Act.put, List.setIfInBounds_toArray, List.set_cons_zero, List.set_cons_succ]))
      refine wpS_one rfl (by rfl) (fun K hK => ?_)
      go_simp
      go_at_call 23
      refine (Hnum.out _ (Hup.out _ _ Kb.out J5.out) E.1).mono ?_
      rintro e v6 ⟨rfl, hb6⟩
      have hS6 := hS.trans hb6
      clear hS hb6
      refine hK (fun W => Below v5.heap.size v5 W) _ _ (fun W h => h) hS6 ?_
      clear hK K
      try simp only [Act.put, List.setIfInBounds_toArray, List.set_cons_zero, List.set_cons_succ]
      repeat (first
        | (refine wpS_take (v := ?_) rfl rfl (by rfl) ?_ ?_; rotate_left; (intro W hW; have hf := F5.out W hW; go_split_ands; go_simp; try with_reducible rfl); try simp only [Act.put, List.setIfInBounds_toArray, List.set_cons_zero, List.set_cons_succ])
        | (refine wpS_skip rfl rfl (by rfl) ?_; try simp only [Act.put, List.setIfInBounds_toArray, List.set_cons_zero, List.set_cons_succ]))
      refine wpS_one rfl (by rfl) (fun K hK => ?_)
      go_simp
      go_at_call 9
      refine (sure_any _).mono ?_
      rintro e v7 ⟨rfl, hb7⟩
      have hS7 := hS6.trans (hb7.mono hS6.size)
      clear hS6 hb7
      refine hK (fun W => Below v5.heap.size v5 W) _ _ (fun W h => h) hS7 ?_
      clear hK K
      try simp only [Act.put, List.setIfInBounds_toArray, List.set_cons_zero, List.set_cons_succ]
      repeat (first
        | (refine wpS_take (v := ?_) rfl rfl (by rfl) ?_ ?_; rotate_left; (intro W hW; have hf := F5.out W hW; go_split_ands; go_simp; try with_reducible rfl); try simp only [Act.put, List.setIfInBounds_toArray, List.set_cons_zero, List.set_cons_succ])
        | (refine wpS_skip rfl rfl (by rfl) ?_; try simp only [Act.put, List.setIfInBounds_toArray, List.set_cons_zero, List.set_cons_succ]))
      refine wpS_last rfl (by rfl) (fun K hK => ?_)
      go_simp
      refine hK _ _ ?_
      clear hK K
      try simp only [Act.put, List.setIfInBounds_toArray, List.set_cons_zero, List.set_cons_succ]
      refine wpS_nil ?_
      go_wp2_with fail
      go_ret
      have k9 := Hup.out _ _ Kb.out (J5.out.trans (hS7.mono J5.out.size))
      exact ⟨rfl, Hb0.out.trans (k9.mono Hb0.out.size)⟩
  · clear hr hd hw hW0 bx0 hb0 r0 d0 t0 g0 hwl sof hlg hlgv htab hg hup
    go_enter Tryd.func7, Tryd.ntmps7
    go_wp2_with fail
    rw [← HW.out]
    refine Hlg.out.mono ?_
    rintro e w1 ⟨rfl, hb1⟩
    go_wp2_with fail
    refine (sure_any _).mono ?_
    rintro e w9 ⟨rfl, hb9⟩
    have k9 := Hup.out _ _ hb1 hb9
    clear hb9
    go_wp2_with fail
    go_ret
    exact ⟨rfl, Hb0.out.trans (k9.mono Hb0.out.size)⟩
end Go.Proofs.YtefjejlpbfbpcaaDoor
