/- Walk of tollbarlaw09.EntryKeeps. -/
import Derived.Test.YtepcmjclaeidjaaNewerW
import Derived.Test.YtepcmjclaeidjaaComp
namespace Go.Proofs.Ytepcmjclaeidjaa
open Go.RowKit
set_option maxRecDepth 100000
set_option linter.unusedVariables false
set_option linter.unusedSimpArgs false
theorem wel_mem {W : World} {N : Nat} {L L2 : List Er} (hw : Wel L) (hs : ∀ x ∈ L, x.n ≤ N) (hm : ∀ y ∈ L2, en y ∈ L.map en) (hd : Dat W L2) : Wel L2 ∧ ∀ y ∈ L2, y.n ≤ N := by
  have key : ∀ y ∈ L2, (W64 y ∧ y.n = y.d.length) ∧ y.n ≤ N := by
    intro y hy
    obtain ⟨x, hx, he⟩ := List.mem_map.1 (hm y hy)
    have hx' := (hw x hx).1
    have e1 : x.a = y.a := congrArg En.a he
    have e2 : x.b = y.b := congrArg En.b he
    have e3 : x.c = y.c := congrArg En.c he
    have e4 : x.d = y.d := congrArg En.d he
    unfold W64 at hx'
    rw [e1, e2, e3] at hx'
    have h5 := ((hd y hy).1.blen).symm
    refine ⟨⟨hx', h5⟩, ?_⟩
    rw [h5, ← e4, ← (hw x hx).2]
    exact hs x hx
  exact ⟨fun y hy => (key y hy).1, fun y hy => (key y hy).2⟩
set_option maxHeartbeats 6400000 in
theorem keeps_walk (b t ix : Int) (A : Option Addr) (n c : Nat) (L : List Er) (w : World) (hr : Rd w T 4 A n (flat ecell L)) (hd : Dat w L) (hw : ∀ y ∈ L, W64 y ∧ y.n ≤ 140737488351232) (hn : n ≤ 9223372036854775807) (hix : I64 ix) :
    Calls Try.prog 4 #[.agg #[.int .i64 b, .int .i64 t, .slice A n c], .int .i64 ix] w (YesPost w) := by
  obtain ⟨W0, hW0⟩ : ∃ W0, W0 = w.alloc (.cells #[.int .i64 b, .int .i64 t, .slice A n c] 24) := ⟨_, rfl⟩
  have bx0 : Bx W0 w.heap.size #[.int .i64 b, .int .i64 t, .slice A n c] := by subst hW0; exact Bx.new _ _ _ rfl
  have hb0 : Below w.heap.size w W0 := by subst hW0; exact (Below.refl _ _).alloc (Nat.le_refl _) _
  have hz0 : W0.heap.size = w.heap.size + 1 := by subst hW0; simp
  have r0 : Rd W0 T 4 A n (flat ecell L) := by subst hW0; exact hr.alloc _
  have d0 : Dat W0 L := hd.below (by subst hW0; exact (Below.refl _ _).alloc (Nat.le_refl _) _)
  have hll := hr.flen ecell_len (by omega)
  have hwl : Wel L := fun y hy => ⟨(hw y hy).1, ((hd y hy).1.blen).symm⟩
  have hlg := fun (W : World) (h : Below W0.heap.size W0 W) => longs_any A n c L W (r0.below h) (fun x hx => (hw x hx).2) hn
  have hbr := Below.refl W0.heap.size W0
  obtain ⟨a0, a1, a2, -⟩ := bx0.c3
  obtain ⟨lg, hlgv⟩ : ∃ lg, longB L = lg := ⟨_, rfl⟩
  rw [hlgv] at hlg
  cases lg
  · obtain ⟨hl1, hl2⟩ := longB_no hlgv
    have hmr := fun (W : World) (h : Below W0.heap.size W0 W) => mayR_any b t A n c L W (r0.below h) hwl (by omega)
    obtain ⟨my, hmyv⟩ : ∃ my, lmay b t (L.map en) = my := ⟨_, rfl⟩
    rw [hmyv] at hmr
    cases my
    · have Hk := Lib.hid bx0
      have Hb0 := Lib.hid hb0
      have Hlg := Lib.hid hlg
      have Hmr := Lib.hid hmr
      have HW := Lib.hid hW0
      clear hr hd hw hW0 bx0 hb0 r0 d0 hwl hlg hlgv hll hmr hl1 hl2 hmyv
      go_enter Try.func4, Try.ntmps4
      go_upto_region 1 with (fail)
      rw [← HW.out]
      go_wp2_with fail
      refine (Hlg.out _ hbr).mono ?_
      rintro e w1 ⟨rfl, hb1⟩
      obtain ⟨k0, k1, k2, -⟩ := (Hk.out.below hb1).c3
      go_wp2_with fail
      refine (Hmr.out _ hb1).mono ?_
      rintro e w2 ⟨rfl, hb2⟩
      have hbn := below_on hb1 hb2
      go_wp2_with fail
      refine (sure_any _).mono ?_
      rintro e w3 ⟨rfl, hb3⟩
      have hbm := below_on hbn hb3
      go_wp2_with fail
      go_ret
      exact ⟨rfl, Hb0.out.trans (hbm.mono Hb0.out.size)⟩
    · have hl2' : ∀ x ∈ L, x.n ≤ 1000000 := fun x hx => by have := hl2 x hx; omega
      have hgv := fun (W : World) (h : Below W0.heap.size W0 W) => giveLog_any b t A n c L W (r0.below h) (d0.below h) hl2' (by omega)
      have hmem : ∀ (L' : List Er), Same L L' → ∀ y ∈ L', en y ∈ L.map en := fun L' h y hy => by rw [← h]; exact List.mem_map.2 ⟨y, hy, rfl⟩
      have hcp : ∀ (W : World) A' c' (L' : List Er), Rd W T 4 A' n (flat ecell L') → Dat W L' → Same L L' → n ≤ c' → c' ≤ maxLen → Calls Try.prog 11 #[.agg #[.int .i64 b, .int .i64 t, .slice A' n c'], .int .i64 ix] W (CompPost W b t ix n L' (termL b t (L.map en) ix)) := fun W A' c' L' r d hs h1 h2 => by
        have hq := wel_mem hwl hl2' (hmem L' hs) d
        have := comp_any b t ix A' n c' L' W r d hq.1 hq.2 (by rw [hs]; exact hmyv) (by omega) h1 h2
        rwa [hs] at this
      have hla : ∀ (W : World) A' c' (L' : List Er), Rd W T 4 A' n (flat ecell L') → Dat W L' → Same L L' → Calls Try.prog 12 #[.agg #[.int .i64 b, .int .i64 t, .slice A' n c']] W (TwoInt W (lstA b (L.map en)) (lstB t (L.map en))) := fun W A' c' L' r d hs => by
        have hq := wel_mem hwl hl2' (hmem L' hs) d
        have := Last_any b t A' n c' L' W r hq.1 (by rw [hs]; exact hmyv) (by omega)
        rwa [hs] at this
      have hlast := lmay_last hmyv
      rw [List.length_map, hll] at hlast
      have hbb := (lmay_iff.1 hmyv).1
      by_cases h0 : (termL b t (L.map en) ix).1 = 0
      · obtain ⟨m, hmx, hmn⟩ : ∃ m : Nat, ix = b + m ∧ m ≤ n := by
          refine ⟨(ix - b).toNat, ?_⟩
          unfold termL at h0
          rw [hlast] at h0
          split at h0
          · cases h0
          · split at h0
            · cases h0
            · omega
        obtain ⟨hd1, hd2, hd3, hd4⟩ := lmay_drop hmyv (by simp; omega) hmx
        have hte : ∀ (W : World) A' c' (L' : List Er) (i : Int), Rd W T 4 A' n (flat ecell L') → Dat W L' → Same L L' → ix ≤ i → i ≤ lstA b (L.map en) → Calls Try.prog 13 #[.agg #[.int .i64 b, .int .i64 t, .slice A' n c'], .int .i64 i] W (fun e w' => e = .returned (.tuple #[.int .i64 (termL b t (L.map en) i).2, .nilIface]) ∧ Below W.heap.size W w') := fun W A' c' L' i r d hs h1 h2 => by
          have hq := wel_mem hwl hl2' (hmem L' hs) d
          have := Term_any b t i A' n c' L' W r hq.1 (by rw [hs]; exact hmyv) (by omega)
          rw [hs] at this
          obtain ⟨v, hv1, hv2⟩ := termL_drop hmyv (by simp; omega) hmx h1 h2
          rw [hv1] at this ⊢
          exact this
        have hmem2 : ∀ (L2 : List Er), L2.map en = (L.map en).drop m → ∀ y ∈ L2, en y ∈ L.map en := fun L2 h y hy => List.mem_of_mem_drop (h ▸ List.mem_map.2 ⟨y, hy, rfl⟩)
        have hte2 : ∀ (W : World) A' c' (L' : List Er) (i : Int), Rd W T 4 A' (n - m) (flat ecell L') → Dat W L' → L'.map en = (L.map en).drop m → ix ≤ i → i ≤ lstA b (L.map en) → Calls Try.prog 13 #[.agg #[.int .i64 ix, .int .i64 (termL b t (L.map en) ix).2, .slice A' (n - m) c'], .int .i64 i] W (fun e w' => e = .returned (.tuple #[.int .i64 (termL b t (L.map en) i).2, .nilIface]) ∧ Below W.heap.size W w') := fun W A' c' L' i r d hs h1 h2 => by
          have hq := wel_mem hwl hl2' (hmem2 L' hs) d
          have := Term_any ix (termL b t (L.map en) ix).2 i A' (n - m) c' L' W r hq.1 (by rw [hs, hd1]; exact hd2) (by omega)
          rw [hs] at this
          obtain ⟨v, hv1, hv2⟩ := termL_drop hmyv (by simp; omega) hmx h1 h2
          rw [hd1] at this ⊢
          rw [hv2] at this
          rw [hv1]
          exact this
        have hla2 : ∀ (W : World) A' c' (L' : List Er), Rd W T 4 A' (n - m) (flat ecell L') → Dat W L' → L'.map en = (L.map en).drop m → Calls Try.prog 12 #[.agg #[.int .i64 ix, .int .i64 (termL b t (L.map en) ix).2, .slice A' (n - m) c']] W (TwoInt W (lstA b (L.map en)) (lstB t (L.map en))) := fun W A' c' L' r d hs => by
          have hq := wel_mem hwl hl2' (hmem2 L' hs) d
          have := Last_any ix (termL b t (L.map en) ix).2 A' (n - m) c' L' W r hq.1 (by rw [hs, hd1]; exact hd2) (by omega)
          rw [hs, hd1, hd3, hd4] at this
          rw [hd1]
          exact this
        have hcp2 : ∀ (W : World) A' c' (L' : List Er), Rd W T 4 A' n (flat ecell L') → Dat W L' → Same L L' → n ≤ c' → c' ≤ maxLen → Calls Try.prog 11 #[.agg #[.int .i64 b, .int .i64 t, .slice A' n c'], .int .i64 ix] W (fun e w' => ∃ A2 c2 L2, e = .returned (.tuple #[.agg #[.int .i64 ix, .int .i64 (termL b t (L.map en) ix).2, .slice A2 (n - m) c2], .nilIface]) ∧ Rd w' T 4 A2 (n - m) (flat ecell L2) ∧ Dat w' L2 ∧ L2.map en = (L.map en).drop m ∧ Below W.heap.size W w') := fun W A' c' L' r d hs h1 h2 => (hcp W A' c' L' r d hs h1 h2).mono fun e w' h => by
          unfold CompPost at h
          rw [if_pos h0] at h
          obtain ⟨A2, c2, L2, m2, g1, g2, g3, g4, g5, g6, g7, g8⟩ := h
          obtain rfl : m2 = m := by omega
          exact ⟨A2, c2, L2, g1, g4.any, g5.dat, by rw [g6, hs], g8⟩
        have hzz : ix ≤ lstA b (L.map en) ∧ -1 ≤ ix ∧ lstA b (L.map en) ≤ 1099511627776 + 1000000 := by rw [hlast]; omega
        generalize termL b t (L.map en) ix = rr at hla2 hcp2 hte2
        generalize lstA b (L.map en) = z at hla hla2 hte hte2 hzz
        generalize lstB t (L.map en) = y at hla hla2
        obtain ⟨N, hN⟩ : ∃ N : Nat, N = (z + 1 - ix).toNat := ⟨_, rfl⟩
        have Hk := Lib.hid bx0
        have Hb0 := Lib.hid hb0
        have Hlg := Lib.hid hlg
        have Hmr := Lib.hid hmr
        have Hgv := Lib.hid hgv
        have Hcp := Lib.hid hcp2
        have Hla := Lib.hid hla
        have Hla2 := Lib.hid hla2
        have Hte := Lib.hid hte
        have Hte2 := Lib.hid hte2
        have HW := Lib.hid hW0
        have Hzz := Lib.hid (And.intro hzz hN)
        clear hr hd hw hW0 bx0 hb0 r0 d0 hwl hlg hlgv hll hmr hl1 hl2 hl2' hmyv hgv hmem hmem2 hcp hcp2 hla hla2 hte hte2 hlast hbb h0 hd1 hd2 hd3 hd4 hzz hN hmx hmn
        go_enter Try.func4, Try.ntmps4
        go_upto_region 1 with (fail)
        rw [← HW.out]
        go_wp2_with fail
        refine (Hlg.out _ hbr).mono ?_
        rintro e w1 ⟨rfl, hb1⟩
        obtain ⟨k0, k1, k2, -⟩ := (Hk.out.below hb1).c3
        go_wp2_with fail
        refine (Hmr.out _ hb1).mono ?_
        rintro e w2 ⟨rfl, hb2⟩
        have hbn := below_on hb1 hb2
        obtain ⟨j0, j1, j2, -⟩ := (Hk.out.below hbn).c3
        go_wp2_with fail
        refine (Hgv.out _ hbn).mono ?_
        rintro e w3 ⟨A3, c3, L3, rfl, r3, d3, sm3, hc3, hc3', hb3⟩
        have hb03 := below_on hbn hb3
        have X4 := Bx.new w3 #[.int .i64 b, .int .i64 t, .slice A3 n c3] 30 rfl
        have r4 := r3.alloc (.cells #[.int .i64 b, .int .i64 t, .slice A3 n c3] 30)
        have d4 : Dat (w3.alloc (.cells #[.int .i64 b, .int .i64 t, .slice A3 n c3] 30)) L3 := d3.below ((Below.refl _ _).alloc (Nat.le_refl _) _)
        have hb04 := hb03.alloc hb03.size (.cells #[.int .i64 b, .int .i64 t, .slice A3 n c3] 30)
        have R4 := Lib.hid (And.intro r4 (And.intro d4 (And.intro sm3 (And.intro hc3 hc3'))))
        have X4' := Lib.hid X4
        have B4 := Lib.hid hb04
        clear r3 d3 sm3 hc3 hc3' hb3 hb03 X4 r4 d4 hb04 hb1 hb2 hbn k0 k1 k2 j0 j1 j2
        go_wp2_with fail
        refine (Hcp.out _ _ _ _ R4.out.1 R4.out.2.1 R4.out.2.2.1 R4.out.2.2.2.1 R4.out.2.2.2.2).mono ?_
        rintro e w5 ⟨A5, c5, L5, rfl, r5, d5, e5, hb5⟩
        have X6 := Bx.new w5 #[.int .i64 ix, .int .i64 rr.2, .slice A5 (n - m) c5] 30 rfl
        have hb46 := hb5.alloc hb5.size (.cells #[.int .i64 ix, .int .i64 rr.2, .slice A5 (n - m) c5] 30)
        have r6 := r5.alloc (.cells #[.int .i64 ix, .int .i64 rr.2, .slice A5 (n - m) c5] 30)
        have d6 : Dat (w5.alloc (.cells #[.int .i64 ix, .int .i64 rr.2, .slice A5 (n - m) c5] 30)) L5 := d5.below ((Below.refl _ _).alloc (Nat.le_refl _) _)
        have x6 := X4'.out.below hb46
        have rx6 := R4.out.1.below hb46
        have dx6 := R4.out.2.1.below hb46
        have hb06 := B4.out.trans (hb46.mono B4.out.size)
        have hw6 : ∃ W6, W6 = w5.alloc (.cells #[.int .i64 ix, .int .i64 rr.2, .slice A5 (n - m) c5] 30) := ⟨_, rfl⟩
        obtain ⟨W6, hw6⟩ := hw6
        rw [← hw6] at X6 hb06 r6 d6 x6 rx6 dx6
        have lA : ∀ W, Below W6.heap.size W6 W → Calls Try.prog 12 #[.agg #[.int .i64 b, .int .i64 t, .slice A3 n c3]] W (TwoInt W z y) := fun W h => Hla.out W A3 c3 L3 (rx6.below h) (dx6.below h) R4.out.2.2.1
        have lB : ∀ W, Below W6.heap.size W6 W → Calls Try.prog 12 #[.agg #[.int .i64 ix, .int .i64 rr.2, .slice A5 (n - m) c5]] W (TwoInt W z y) := fun W h => Hla2.out W A5 c5 L5 (r6.below h) (d6.below h) e5
        have tA : ∀ W i, Below W6.heap.size W6 W → ix ≤ i → i ≤ z → Calls Try.prog 13 #[.agg #[.int .i64 b, .int .i64 t, .slice A3 n c3], .int .i64 i] W _ := fun W i h h1 h2 => Hte.out W A3 c3 L3 i (rx6.below h) (dx6.below h) R4.out.2.2.1 h1 h2
        have tB : ∀ W i, Below W6.heap.size W6 W → ix ≤ i → i ≤ z → Calls Try.prog 13 #[.agg #[.int .i64 ix, .int .i64 rr.2, .slice A5 (n - m) c5], .int .i64 i] W _ := fun W i h h1 h2 => Hte2.out W A5 c5 L5 i (r6.below h) (d6.below h) e5 h1 h2
        have kx := fun W (h : Below W6.heap.size W6 W) => (x6.below h).c3
        have ky := fun W (h : Below W6.heap.size W6 W) => (X6.below h).c3
        have LA := Lib.hid lA
        have LB := Lib.hid lB
        have TA := Lib.hid tA
        have TB := Lib.hid tB
        have KX := Lib.hid kx
        have KY := Lib.hid ky
        have B6 := Lib.hid hb06
        have HW6 := Lib.hid hw6
        have Hm1 := Lib.hid r6
        have hb66 := Below.refl W6.heap.size W6
        obtain ⟨x0, x1, x2, -⟩ := KX.out _ hb66
        obtain ⟨y0, y1, y2, -⟩ := KY.out _ hb66
        clear r5 d5 e5 hb5 X6 hb46 r6 d6 x6 rx6 dx6 hb06 lA lB tA tB kx ky hw6
        clear Hcp Hla Hla2 Hte Hte2 Hgv Hmr Hlg
        go_upto_region 5 with (fail)
        rw [← HW6.out]
        go_wp2_with fail
        refine (LA.out _ hb66).mono ?_
        rintro e w7 ⟨rfl, hb7⟩
        obtain ⟨u0, u1, u2, -⟩ := KX.out _ hb7
        obtain ⟨v0, v1, v2, -⟩ := KY.out _ hb7
        go_wp2_with fail
        refine (LB.out _ hb7).mono ?_
        rintro e w8 ⟨rfl, hb8⟩
        have hb68 := below_on hb7 hb8
        obtain ⟨u0', u1', u2', -⟩ := KX.out _ hb68
        obtain ⟨v0', v1', v2', -⟩ := KY.out _ hb68
        go_wp2_with fail
        have hb08 := B6.out.trans (hb68.mono B6.out.size)
        clear u0 u1 u2 v0 v1 v2 u0' u1' u2' v0' v1' v2' x0 x1 x2 y0 y1 y2
        go_loopg [12, 13, 14, 15, 16] N (fun q s12 s13 s14 s15 s16 wr => ∃ k : Nat, q = N - k ∧ k ≤ N ∧ s12 = .int .i64 (ix + k) ∧ Below W6.heap.size W6 wr)
        case atStart => exact ⟨0, by omega, by omega, by simp, hb68⟩
        case round =>
          obtain ⟨k, hq, hk, rfl, hb⟩ := hrel
          obtain ⟨i, hi⟩ : ∃ i, i = ix + (k : Int) := ⟨_, rfl⟩
          rw [← hi]
          have hzz := Hzz.out
          have wi : IntKind.i64.wrap (i - ix) = (k : Int) := by rw [IntKind.wrap_i64]; omega
          have w1 : IntKind.i64.wrap (i + 1) = i + 1 := by rw [IntKind.wrap_i64]; omega
          have Hi := Lib.hid (And.intro hi (And.intro hq hk))
          clear hi hq hk hzz
          by_cases h1 : i ≤ z
          · by_cases h2 : (k : Int) < 300
            · have c1 := TA.out wr i hb (by have := Hi.out; omega) h1
              obtain ⟨u0, u1, u2, -⟩ := KX.out _ hb
              obtain ⟨v0, v1, v2, -⟩ := KY.out _ hb
              have C1 := Lib.hid c1
              clear c1
              go_wp2_with fail
              refine C1.out.mono ?_
              rintro e w9 ⟨rfl, hb9⟩
              have hb69 := below_on hb hb9
              have c2 := TB.out w9 i hb69 (by have := Hi.out; omega) h1
              obtain ⟨u0, u1, u2, -⟩ := KX.out _ hb69
              obtain ⟨v0, v1, v2, -⟩ := KY.out _ hb69
              have C2 := Lib.hid c2
              clear c2
              go_wp2_with fail
              refine C2.out.mono ?_
              rintro e w10 ⟨rfl, hb10⟩
              have hb610 := below_on hb69 hb10
              go_wp2_with fail
              go_roundg (N - (k + 1))
              case measure => have := Hi.out; have := Hzz.out; omega
              case rel => exact ⟨k + 1, rfl, by have := Hi.out; have := Hzz.out; omega, by have := Hi.out; first | go_num | (congr 1; omega) | (simp; omega), hb610⟩
            · have h2d : decide ((k : Int) < 300) = false := decide_eq_false h2
              go_wp2_with fail
              refine (sure_any _).mono ?_
              rintro e w11 ⟨rfl, hb11⟩
              go_wp2_with fail
              go_ret
              have hb12 := below_on hb hb11
              exact ⟨rfl, Hb0.out.trans ((B6.out.trans (hb12.mono B6.out.size)).mono Hb0.out.size)⟩
          · have h1d : decide (i ≤ z) = false := decide_eq_false h1
            go_wp2_with fail
            refine (sure_any _).mono ?_
            rintro e w11 ⟨rfl, hb11⟩
            go_wp2_with fail
            go_ret
            have hb12 := below_on hb hb11
            exact ⟨rfl, Hb0.out.trans ((B6.out.trans (hb12.mono B6.out.size)).mono Hb0.out.size)⟩
      · have hk0 : errC (termL b t (L.map en) ix).1 = .iface 54 (.int .i64 (termL b t (L.map en) ix).1) := if_neg h0
        have hcp2 : ∀ (W : World) A' c' (L' : List Er), Rd W T 4 A' n (flat ecell L') → Dat W L' → Same L L' → n ≤ c' → c' ≤ maxLen → Calls Try.prog 11 #[.agg #[.int .i64 b, .int .i64 t, .slice A' n c'], .int .i64 ix] W (fun e w' => e = .returned (.tuple #[.agg #[.int .i64 0, .int .i64 0, .slice none 0 0], .iface 54 (.int .i64 (termL b t (L.map en) ix).1)]) ∧ Below W.heap.size W w') := fun W A' c' L' r d hs h1 h2 => (hcp W A' c' L' r d hs h1 h2).mono fun e w' h => by
          unfold CompPost at h
          rw [if_neg h0, hk0] at h
          exact h
        have hout : lstA b (L.map en) < ix ∨ (¬ lstA b (L.map en) < ix ∧ ix < b) := by
          unfold termL at h0
          rw [hlast] at h0 ⊢
          split at h0
          · omega
          · split at h0
            · omega
            · split at h0 <;> exact absurd rfl h0
        generalize (termL b t (L.map en) ix).1 = ek at hcp2
        generalize lstA b (L.map en) = z at hla hout
        generalize lstB t (L.map en) = y at hla
        have Hk := Lib.hid bx0
        have Hb0 := Lib.hid hb0
        have Hlg := Lib.hid hlg
        have Hmr := Lib.hid hmr
        have Hgv := Lib.hid hgv
        have Hcp := Lib.hid hcp2
        have Hla := Lib.hid hla
        have HW := Lib.hid hW0
        have Ho := Lib.hid hout
        clear hr hd hw hW0 bx0 hb0 r0 d0 hwl hlg hlgv hll hmr hl1 hl2 hl2' hmyv hgv hmem hcp hcp2 hla hlast hbb h0 hout hk0
        go_enter Try.func4, Try.ntmps4
        go_upto_region 1 with (fail)
        rw [← HW.out]
        go_wp2_with fail
        refine (Hlg.out _ hbr).mono ?_
        rintro e w1 ⟨rfl, hb1⟩
        obtain ⟨k0, k1, k2, -⟩ := (Hk.out.below hb1).c3
        go_wp2_with fail
        refine (Hmr.out _ hb1).mono ?_
        rintro e w2 ⟨rfl, hb2⟩
        have hbn := below_on hb1 hb2
        obtain ⟨j0, j1, j2, -⟩ := (Hk.out.below hbn).c3
        go_wp2_with fail
        refine (Hgv.out _ hbn).mono ?_
        rintro e w3 ⟨A3, c3, L3, rfl, r3, d3, sm3, hc3, hc3', hb3⟩
        have hb03 := below_on hbn hb3
        have X4 := Bx.new w3 #[.int .i64 b, .int .i64 t, .slice A3 n c3] 30 rfl
        have r4 := r3.alloc (.cells #[.int .i64 b, .int .i64 t, .slice A3 n c3] 30)
        have d4 : Dat (w3.alloc (.cells #[.int .i64 b, .int .i64 t, .slice A3 n c3] 30)) L3 := d3.below ((Below.refl _ _).alloc (Nat.le_refl _) _)
        have hb04 := hb03.alloc hb03.size (.cells #[.int .i64 b, .int .i64 t, .slice A3 n c3] 30)
        have R4 := Lib.hid (And.intro r4 (And.intro d4 (And.intro sm3 (And.intro hc3 hc3'))))
        have X4' := Lib.hid X4
        have B4 := Lib.hid hb04
        clear r3 d3 sm3 hc3 hc3' hb3 hb03 X4 r4 d4 hb04 hb1 hb2 hbn k0 k1 k2 j0 j1 j2
        go_wp2_with fail
        refine (Hcp.out _ _ _ _ R4.out.1 R4.out.2.1 R4.out.2.2.1 R4.out.2.2.2.1 R4.out.2.2.2.2).mono ?_
        rintro e w5 ⟨rfl, hb5⟩
        have hb46 := hb5.alloc hb5.size (.cells #[.int .i64 0, .int .i64 0, .slice none 0 0] 30)
        have x6 := X4'.out.below hb46
        have rx6 := R4.out.1.below hb46
        have dx6 := R4.out.2.1.below hb46
        have hb06 := B4.out.trans (hb46.mono B4.out.size)
        have lA := Hla.out _ A3 c3 L3 rx6 dx6 R4.out.2.2.1
        have LA := Lib.hid lA
        have B6 := Lib.hid hb06
        obtain ⟨x0, x1, x2, -⟩ := x6.c3
        obtain ⟨y0, y1, y2, -⟩ := (Hk.out.below hb06).c3
        clear hb46 x6 rx6 dx6 hb06 lA hb5
        clear Hcp Hla Hgv Hmr Hlg
        go_wp2_with fail
        refine LA.out.mono ?_
        rintro e w7 ⟨rfl, hb7⟩
        have hb07 := below_on B6.out hb7
        obtain ⟨y0, y1, y2, -⟩ := (Hk.out.below hb07).c3
        rcases Ho.out with h1 | ⟨h1, h2⟩
        · go_wp2_with fail
          refine (sure_any _).mono ?_
          rintro e w8 ⟨rfl, hb8⟩
          go_wp2_with fail
          go_ret
          have hb12 := below_on hb07 hb8
          exact ⟨rfl, Hb0.out.trans (hb12.mono Hb0.out.size)⟩
        · have h1d : decide (z < ix) = false := decide_eq_false (by omega)
          go_wp2_with fail
          refine (sure_any _).mono ?_
          rintro e w8 ⟨rfl, hb8⟩
          go_wp2_with fail
          go_ret
          have hb12 := below_on hb07 hb8
          exact ⟨rfl, Hb0.out.trans (hb12.mono Hb0.out.size)⟩
  · have Hk := Lib.hid bx0
    have Hb0 := Lib.hid hb0
    have Hlg := Lib.hid hlg
    have HW := Lib.hid hW0
    clear hr hd hw hW0 bx0 hb0 r0 d0 hwl hlg hlgv hll
    go_enter Try.func4, Try.ntmps4
    go_upto_region 1 with (fail)
    rw [← HW.out]
    go_wp2_with fail
    refine (Hlg.out _ hbr).mono ?_
    rintro e w1 ⟨rfl, hb1⟩
    go_wp2_with fail
    refine (sure_any _).mono ?_
    rintro e w3 ⟨rfl, hb3⟩
    have hbm := below_on hb1 hb3
    go_wp2_with fail
    go_ret
    exact ⟨rfl, Hb0.out.trans (hbm.mono Hb0.out.size)⟩
end Go.Proofs.Ytepcmjclaeidjaa
