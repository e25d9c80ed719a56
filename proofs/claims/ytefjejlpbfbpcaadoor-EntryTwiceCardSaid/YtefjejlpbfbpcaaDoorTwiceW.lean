/- Walk of tollbarlaw09.EntryTwice. (Printed by mkone.py.) -/
import Derived.Test.YtefjejlpbfbpcaaDoorOneW
import Derived.Test.YtefjejlpbfbpcaaDoorCompW
import Derived.Test.YtefjejlpbfbpcaaDoorLogsW
import Derived.Test.YtefjejlpbfbpcaaDoorSched
namespace Go.Proofs.YtefjejlpbfbpcaaDoor
open Go.RowKit
set_option maxRecDepth 100000
set_option linter.unusedVariables false
set_option linter.unusedSimpArgs false
set_option maxHeartbeats 6400000 in
theorem twice_walk (b t ix tm : Int) (A : Option Addr) (n c : Nat) (L : List Er) (M : Option Addr) (nm cm : Nat) (more : List Er) (w : World) (hr : Rd w T 4 A n (flat ecell L)) (hd : Dat w L) (hw : ∀ y ∈ L, W64 y ∧ y.n ≤ 140737488351232) (hn : n ≤ 9223372036854775807) (gr : Rd w T 4 M nm (flat ecell more)) (gd : Dat w more) (gw : ∀ y ∈ more, W64 y ∧ y.n ≤ 140737488351232) (gn : nm ≤ 9223372036854775807) (htab : TabW w) :
    Calls Tryd.prog 3 #[.agg #[.int .i64 b, .int .i64 t, .slice A n c], .agg #[.int .i64 ix, .int .i64 tm, .slice M nm cm]] w (YesPost w) := by
  obtain ⟨W0, hW0⟩ : ∃ W0, W0 = (w.alloc (.cells #[.int .i64 b, .int .i64 t, .slice A n c] 24)).alloc (.cells #[.int .i64 ix, .int .i64 tm, .slice M nm cm] 26) := ⟨_, rfl⟩
  have bx0 : Bx W0 w.heap.size #[.int .i64 b, .int .i64 t, .slice A n c] := by subst hW0; exact (Bx.new _ _ _ rfl).alloc _
  have bx1 : Bx W0 (w.heap.size + 1) #[.int .i64 ix, .int .i64 tm, .slice M nm cm] := by subst hW0; exact Bx.new _ _ _ (by simp)
  have hb0 : Below w.heap.size w W0 := by subst hW0; exact ((Below.refl _ _).alloc (Nat.le_refl _) _).alloc (by simp) _
  have r0 : Rd W0 T 4 A n (flat ecell L) := hr.below hb0
  have d0 : Dat W0 L := hd.below hb0
  have q0 : Rd W0 T 4 M nm (flat ecell more) := gr.below hb0
  have e0 : Dat W0 more := gd.below hb0
  have t0 : TabW W0 := htab.below hb0 (Nat.le_refl _)
  have hwl : Wel L := fun y hy => ⟨(hw y hy).1, ((hd y hy).1.blen).symm⟩
  have gwl : Wel more := fun y hy => ⟨(gw y hy).1, ((gd y hy).1.blen).symm⟩
  have sof : ∀ W, Below W0.heap.size W0 W → ((W.cell? ⟨w.heap.size, 0, none⟩ = some (.int .i64 b) ∧ W.cell? ⟨w.heap.size, 1, none⟩ = some (.int .i64 t) ∧ W.cell? ⟨w.heap.size, 2, none⟩ = some (.slice A n c)) ∧ W.cell? ⟨w.heap.size + 1, 0, none⟩ = some (.int .i64 ix) ∧ W.cell? ⟨w.heap.size + 1, 1, none⟩ = some (.int .i64 tm) ∧ W.cell? ⟨w.heap.size + 1, 2, none⟩ = some (.slice M nm cm)) := fun W h => ⟨⟨(bx0.below h).c 0, (bx0.below h).c 1, (bx0.below h).c 2⟩, (bx1.below h).c 0, (bx1.below h).c 1, (bx1.below h).c 2⟩
  have hlg := fun (W : World) (h : Below W0.heap.size W0 W) => longs_any A n c L W (r0.below h) (fun x hx => (hw x hx).2) hn
  have glg := fun (W : World) (h : Below W0.heap.size W0 W) => longs_any M nm cm more W (q0.below h) (fun x hx => (gw x hx).2) gn
  obtain ⟨lg, hlgv⟩ : ∃ lg, longB L = lg := ⟨_, rfl⟩
  obtain ⟨lg2, glgv⟩ : ∃ lg, longB more = lg := ⟨_, rfl⟩
  rw [hlgv] at hlg
  rw [glgv] at glg
  have hup : ∀ W W', Below W0.heap.size W0 W → Below W.heap.size W W' → Below W0.heap.size W0 W' := fun W W' h h' => h.trans (h'.mono h.size)
  have Hb0 := Lib.hid hb0
  have Sof := Lib.hid sof
  have HW := Lib.hid hW0
  have Hlg := Lib.hid hlg
  have Glg := Lib.hid glg
  have Hup := Lib.hid hup
  by_cases hlong : lg = true ∨ lg2 = true
  · clear hr hd hw hW0 bx0 bx1 hb0 r0 d0 q0 e0 t0 hwl gwl sof hlg glg hlgv glgv htab hup gr gd gw
    go_enter Tryd.func3, Tryd.ntmps3
    go_wp2_with fail
    rw [← HW.out]
    obtain ⟨⟨u0, u1, u2⟩, u3, u4, u5⟩ := Sof.out _ (Below.refl _ _)
    go_wp2_with fail
    refine (Hlg.out _ (Below.refl _ _)).mono ?_
    rintro e w1 ⟨rfl, hb1⟩
    cases lg
    · obtain rfl : lg2 = true := by simpa using hlong
      obtain ⟨⟨u0, u1, u2⟩, u3, u4, u5⟩ := Sof.out _ hb1
      go_wp2_with fail
      refine (Glg.out _ hb1).mono ?_
      rintro e w2 ⟨rfl, hb2⟩
      have k2 := Hup.out _ _ hb1 hb2
      clear hb2
      go_wp2_with fail
      refine (sure_any _).mono ?_
      rintro e w9 ⟨rfl, hb9⟩
      have k9 := Hup.out _ _ k2 hb9
      clear hb9
      go_wp2_with fail
      go_ret
      exact ⟨rfl, Hb0.out.trans (k9.mono Hb0.out.size)⟩
    · go_wp2_with fail
      refine (sure_any _).mono ?_
      rintro e w9 ⟨rfl, hb9⟩
      have k9 := Hup.out _ _ hb1 hb9
      clear hb9
      go_wp2_with fail
      go_ret
      exact ⟨rfl, Hb0.out.trans (k9.mono Hb0.out.size)⟩
  obtain ⟨rfl, rfl⟩ : lg = false ∧ lg2 = false := by cases lg <;> cases lg2 <;> simp_all
  obtain ⟨hl1, hl2⟩ := longB_no hlgv
  obtain ⟨gl1, gl2⟩ := longB_no glgv
  have hlen := hr.flen ecell_len (by omega)
  have glen := gr.flen ecell_len (by omega)
  have hn2 : n ≤ 200 := by omega
  have gn2 : nm ≤ 200 := by omega
  have hs : ∀ x ∈ L, x.n ≤ 1000000 := fun x hx => by have := hl2 x hx; omega
  have gs : ∀ x ∈ more, x.n ≤ 1000000 := fun x hx => by have := gl2 x hx; omega
  have hgv := fun (W : World) (h : Below W0.heap.size W0 W) => giveLog_any b t A n c L W (r0.below h) (d0.below h) hs (by omega)
  have ggv := fun (W : World) (h : Below W0.heap.size W0 W) => gives_any M nm cm more W (q0.below h) (e0.below h) gs (by omega)
  have hmg : ∀ (W : World) A' c' (L' : List Er) M' cm' (more' : List Er), Rd W T 4 A' n (flat ecell L') → Dat W L' → L'.map en = L.map en → Rd W T 4 M' nm (flat ecell more') → Dat W more' → more'.map en = more.map en → Calls Tryd.prog 10 #[.agg #[.int .i64 b, .int .i64 t, .slice A' n c'], .int .i64 ix, .int .i64 tm, .slice M' nm cm'] W (MergePost W b t (L.map en) (mergeB b t (L.map en) ix tm (more.map en)) (mergeR b (L.map en) ix (more.map en))) := fun W A' c' L' M' cm' more' r d hsm r' d' hsm' => by
    have hq := wel_mem hwl hs (fun y hy => by rw [← hsm]; exact List.mem_map.2 ⟨y, hy, rfl⟩) d
    have gq := wel_mem gwl gs (fun y hy => by rw [← hsm']; exact List.mem_map.2 ⟨y, hy, rfl⟩) d'
    have := merge_all b t ix tm A' n c' L' M' nm cm' more' W r d hq.1 hq.2 (by omega) r' d' gq.1 gq.2 (by omega)
    rw [hsm, hsm'] at this
    exact this
  obtain ⟨R, hR⟩ : ∃ R, mergeR b (L.map en) ix (more.map en) = R := ⟨_, rfl⟩
  obtain ⟨yes, hyes⟩ : ∃ yes, mergeB b t (L.map en) ix tm (more.map en) = yes := ⟨_, rfl⟩
  rw [hR, hyes] at hmg
  have Hgv := Lib.hid hgv
  have Ggv := Lib.hid ggv
  have Hmg := Lib.hid hmg
  have glen2 : (more.map en).length = nm := by rw [List.length_map, glen]
  have hlaw : yes → mergeB b t R.1 ix tm (more.map en) ∧ mergeR b R.1 ix (more.map en) = R ∧ lmay b t R.1 = true := fun h => by
    rw [← hyes] at h
    have h2 := merge_laws h
    rw [hR] at h2
    exact ⟨h2.1, h2.2.1, h2.1.1⟩
  have hmg2 : ∀ (W : World) (b' t' : Int) A' n' c' (L' : List Er) M' cm' (more' : List Er), yes → b' = b → t' = t → Rd W T 4 A' n' (flat ecell L') → Dat W L' → L'.map en = R.1 → Rd W T 4 M' nm (flat ecell more') → Dat W more' → more'.map en = more.map en → Calls Tryd.prog 10 #[.agg #[.int .i64 b', .int .i64 t', .slice A' n' c'], .int .i64 ix, .int .i64 tm, .slice M' nm cm'] W (fun e w' => ∃ A c L2, e = .returned (.tuple #[.agg #[.int .i64 b', .int .i64 t', .slice A n' c], .int .i64 R.2, .bool true]) ∧ Rd w' (W.heap.size ≤ ·) 4 A n' (flat ecell L2) ∧ DatB w' W.heap.size L2 ∧ L2.map en = R.1 ∧ Below W.heap.size W w') := fun W b' t' A' n' c' L' M' cm' more' hy hb' ht' r d hsm r' d' hsm' => by
    subst hb' ht'
    have hq := wel_lmay (hlaw hy).2.2 hsm d
    have gq := wel_mem gwl gs (fun y hy => by rw [← hsm']; exact List.mem_map.2 ⟨y, hy, rfl⟩) d'
    have hfl := r.flen ecell_len (by omega)
    refine (merge_all b' t' ix tm A' n' c' L' M' nm cm' more' W r d hq.1 hq.2.1 (by omega) r' d' gq.1 gq.2 (by omega)).mono ?_
    rintro e w' ⟨b3, t3, A3, n3, c3, L3, k3, o3, rfl, r3, d3, nc3, mc3, hb⟩
    rw [hsm, hsm'] at mc3
    rcases mc3 with ⟨h1, h2, h3, h4, h5, h6⟩ | ⟨h1, h2, h3, h4, h5, h6⟩ | ⟨h1, h2, h3, h4, h5, h6⟩
    · rw [(hlaw hy).2.1] at h5 h6
      have hfl3 := r3.flen ecell_len (by omega)
      have e1 : L3.length = L'.length := by
        have e1 := congrArg List.length h5
        have e2 := congrArg List.length hsm
        rw [List.length_map] at e1 e2
        omega
      subst h1 h3 h4 h6
      obtain rfl : n3 = n' := by omega
      exact ⟨A3, c3, L3, rfl, r3, d3, h5, hb⟩
    · exact absurd (hlaw hy).1 h2
    · exact absurd (hlaw hy).1 h2
  have htb := fun (W : World) (h : Below W0.heap.size W0 W) => t0.below h (Nat.le_refl _)
  have Hlaw := Lib.hid hlaw
  have Hmg2 := Lib.hid hmg2
  have Htb := Lib.hid htb
  clear hr hd hw hW0 bx0 bx1 hb0 r0 d0 q0 e0 t0 hwl gwl sof hlg glg hl2 gl2 hlgv glgv hs gs hup hgv ggv hmg gr gd gw hlen glen hlong hR hyes hlaw hmg2 htb glen2 htab
  go_enter Tryd.func3, Tryd.ntmps3
  go_wp2_with fail
  rw [← HW.out]
  obtain ⟨⟨u0, u1, u2⟩, u3, u4, u5⟩ := Sof.out _ (Below.refl _ _)
  go_wp2_with fail
  refine (Hlg.out _ (Below.refl _ _)).mono ?_
  rintro e w1 ⟨rfl, hb1⟩
  clear u0 u1 u2 u3 u4 u5
  obtain ⟨⟨u0, u1, u2⟩, u3, u4, u5⟩ := Sof.out _ hb1
  go_wp2_with fail
  refine (Glg.out _ hb1).mono ?_
  rintro e w2 ⟨rfl, hb2⟩
  have k2 := Hup.out _ _ hb1 hb2
  clear hb2 hb1 u0 u1 u2 u3 u4 u5
  go_upto_region 3 with (fail)
  go_cut [5, 6, 7] (fun s5 s6 s7 W => ∃ (g : Nat) (k : Int) (o : Bool) (b' t' : Int) (A' : Option Addr) (n' c' : Nat) (L' : List Er), s5 = .pointer (some ⟨g, 0, none⟩) ∧ s6 = .int .i64 k ∧ s7 = .bool o ∧ Below W0.heap.size W0 W ∧ MgIn W W0.heap.size g b t (L.map en) yes R k o b' t' A' n' c' L')
  case first =>
    have hS0 : Below W0.heap.size W0 w2.drew := k2.trans (Below.refl _ _).drew
    refine wp_region_S 17 (fun W => Below W0.heap.size W0 W) (.take 0 (.take 2 (.take 3 (.take 4 (.take 5 (.take 6 (.take 7 (.two 1 14 (.two 8 14 (.two 9 14 (.take 10 (.take 11 (.take 12 (.take 13 (.one 14 (.one 15 (.take 16 (.one 17 (.nil))))))))) (.one 9 (.take 10 (.take 11 (.take 12 (.take 13 (.one 15 (.take 16 (.one 17 (.nil)))))))))) (.one 8 (.one 9 (.take 10 (.take 11 (.take 12 (.take 13 (.one 15 (.take 16 (.one 17 (.nil))))))))))) (.one 1 (.one 8 (.one 9 (.take 10 (.take 11 (.take 12 (.take 13 (.one 15 (.take 16 (.one 17 (.nil))))))))))))))))))) (by kernel_rfl) hS0 (fun _ _ _ _ h => h) (fun hS => ?_)
    obtain ⟨wd, hwd⟩ : ∃ wd, wd = World.drew w2 := ⟨_, rfl⟩
    rw [← hwd] at hS ⊢
    clear hwd hS0 k2
    repeat (first
      | (refine wpS_take (v := ?_) rfl rfl (by rfl) ?_ ?_; rotate_left; (intro W hW; have hf := Sof.out W hW; go_split_ands; go_simp; try with_reducible rfl); try simp only [Act.put, List.setIfInBounds_toArray, List.set_cons_zero, List.set_cons_succ])
      | (refine wpS_skip rfl rfl (by rfl) ?_; try simp only [Act.put, List.setIfInBounds_toArray, List.set_cons_zero, List.set_cons_succ]))
    refine wpS_two rfl rfl (by rfl) (by rfl) (fun K hK => ?_) (fun K hK => ?_)
    · go_simp
      go_at_call 11
      refine (Hgv.out _ hS).mono ?_
      rintro e v1 ⟨A2, c2, L2, rfl, r2, d2, m2, n2, x2, hb⟩
      clear n2 x2
      have hS2 := Hup.out _ _ hS hb
      clear hS
      have hS := hS2
      clear hS2 hb
      refine hK (fun W => Below W0.heap.size W0 W) _ _ (fun W h => h) hS ?_
      clear hK K
      try simp only [Act.put, List.setIfInBounds_toArray, List.set_cons_zero, List.set_cons_succ]
      repeat (first
        | (refine wpS_take (v := ?_) rfl rfl (by rfl) ?_ ?_; rotate_left; (intro W hW; have hf := Sof.out W hW; go_split_ands; go_simp; try with_reducible rfl); try simp only [Act.put, List.setIfInBounds_toArray, List.set_cons_zero, List.set_cons_succ])
        | (refine wpS_skip rfl rfl (by rfl) ?_; try simp only [Act.put, List.setIfInBounds_toArray, List.set_cons_zero, List.set_cons_succ]))
      refine wpS_two rfl rfl (by rfl) (by rfl) (fun K hK => ?_) (fun K hK => ?_)
      · go_simp
        go_at_call 12
        refine (Ggv.out _ hS).mono ?_
        rintro e v2 ⟨M2, cm2, more2, rfl, ro2, ms2, hb⟩
        have g2 := ro2.rd
        have e2 := ro2.dat
        clear ro2
        replace r2 := r2.below hb
        replace d2 := d2.below hb
        have hS2 := Hup.out _ _ hS hb
        clear hS
        have hS := hS2
        clear hS2 hb
        refine hK (fun W => Below W0.heap.size W0 W) _ _ (fun W h => h) hS ?_
        clear hK K
        try simp only [Act.put, List.setIfInBounds_toArray, List.set_cons_zero, List.set_cons_succ]
        repeat (first
          | (refine wpS_take (v := ?_) rfl rfl (by rfl) ?_ ?_; rotate_left; (intro W hW; have hf := Sof.out W hW; go_split_ands; go_simp; try with_reducible rfl); try simp only [Act.put, List.setIfInBounds_toArray, List.set_cons_zero, List.set_cons_succ])
          | (refine wpS_skip rfl rfl (by rfl) ?_; try simp only [Act.put, List.setIfInBounds_toArray, List.set_cons_zero, List.set_cons_succ]))
        refine wpS_two rfl rfl (by rfl) (by rfl) (fun K hK => ?_) (fun K hK => ?_)
        · go_simp
          go_at_call 10
          refine (Hmg.out _ A2 c2 L2 M2 cm2 more2 r2 d2 m2 g2 e2 ms2).mono ?_
          rintro e v3 ⟨b3, t3, A3, n3, c3, L3, k3, o3, rfl, r3, d3, nc3, mc3, hb⟩
          replace r2 := r2.below hb
          replace d2 := d2.below hb
          replace g2 := g2.below hb
          replace e2 := e2.below hb
          have hS2 := Hup.out _ _ hS hb
          clear hS
          have hS := hS2
          clear hS2 hb
          refine hK (fun W => Below W0.heap.size W0 W) _ _ (fun W h => h) hS ?_
          clear hK K
          try simp only [Act.put, List.setIfInBounds_toArray, List.set_cons_zero, List.set_cons_succ]
          repeat (first
            | (refine wpS_take (v := ?_) rfl rfl (by rfl) ?_ ?_; rotate_left; (intro W hW; have hf := Sof.out W hW; go_split_ands; go_simp; try with_reducible rfl); try simp only [Act.put, List.setIfInBounds_toArray, List.set_cons_zero, List.set_cons_succ])
            | (refine wpS_skip rfl rfl (by rfl) ?_; try simp only [Act.put, List.setIfInBounds_toArray, List.set_cons_zero, List.set_cons_succ]))
          refine wpS_one rfl (by rfl) (fun K hK => ?_)
          go_simp
          obtain ⟨va, hva⟩ : ∃ va, va = World.alloc v3 (.cells #[.int .i64 0, .int .i64 0, .slice none 0 0] 31) := ⟨_, rfl⟩
          obtain ⟨gx, hgx⟩ : ∃ g, g = v3.heap.size := ⟨_, rfl⟩
          have bxa : Bx va gx #[.int .i64 0, .int .i64 0, .slice none 0 0] := by subst hva hgx; exact Bx.new _ _ _ rfl
          have hb : Below v3.heap.size v3 va := by subst hva; exact (Below.refl _ _).alloc (Nat.le_refl _) _
          have hgB : W0.heap.size ≤ gx := by rw [hgx]; exact hS.size
          have r3n : Rd va (fun q => q ≠ gx) 4 A3 n3 (flat ecell L3) := ((r3.lt (by omega)).mono (fun q hq => by have := hq.2; omega)).below hb
          have d3n : ∀ y ∈ L3, Rd va (fun q => q ≠ gx) 1 y.A y.n (bs y.d) ∧ y.n ≤ y.m ∧ y.m ≤ maxLen := fun y hy => ⟨(((d3 y hy).1.lt (by omega)).mono (fun q hq => by have := hq.2; omega)).below hb, (d3 y hy).2⟩
          have hS2 := Hup.out _ _ hS hb
          clear hS
          have hS := hS2
          rw [← hgx, ← hva]
          clear hS2 hb hva hgx r3 d3
          refine hK (fun W => Below W0.heap.size W0 W) _ _ (fun W h => h) hS ?_
          clear hK K
          try simp only [Act.put, List.setIfInBounds_toArray, List.set_cons_zero, List.set_cons_succ]
          obtain ⟨z0, z1, z2, z3, z4, z5⟩ := bxa.c3
          refine wpS_one rfl (by rfl) (fun K hK => ?_)
          go_simp
          have bxf := sto3 (a1 := .int .i64 b3) (a2 := .int .i64 t3) (a3 := .slice A3 n3 c3) (A := none) (xs := []) (n := 0) bxa
          have rf := sto3_rd (g := gx) (a1 := .int .i64 b3) (a2 := .int .i64 t3) (a3 := .slice A3 n3 c3) r3n (fun h => h rfl)
          have df : ∀ y ∈ L3, Rd _ (fun q => q ≠ gx) 1 y.A y.n (bs y.d) ∧ y.n ≤ y.m ∧ y.m ≤ maxLen := fun y hy => ⟨sto3_rd (g := gx) (a1 := .int .i64 b3) (a2 := .int .i64 t3) (a3 := .slice A3 n3 c3) (d3n y hy).1 (fun h => h rfl), (d3n y hy).2⟩
          have hSf := sto3_below (a1 := .int .i64 b3) (a2 := .int .i64 t3) (a3 := .slice A3 n3 c3) hS hgB
          refine hK (fun W => Below W0.heap.size W0 W) _ _ (fun W h => h) hSf ?_
          clear hK K z0 z1 z2 z3 z4 z5 hS
          try simp only [Act.put, List.setIfInBounds_toArray, List.set_cons_zero, List.set_cons_succ]
          repeat (first
            | (refine wpS_take (v := ?_) rfl rfl (by rfl) ?_ ?_; rotate_left; (intro W hW; have hf := Sof.out W hW; go_split_ands; go_simp; try with_reducible rfl); try simp only [Act.put, List.setIfInBounds_toArray, List.set_cons_zero, List.set_cons_succ])
            | (refine wpS_skip rfl rfl (by rfl) ?_; try simp only [Act.put, List.setIfInBounds_toArray, List.set_cons_zero, List.set_cons_succ]))
          refine wpS_last rfl (by rfl) (fun K hK => ?_)
          go_simp
          refine hK _ _ ?_
          clear hK K
          try simp only [Act.put, List.setIfInBounds_toArray, List.set_cons_zero, List.set_cons_succ]
          refine wpS_nil ?_
          go_wp2_with fail
          go_meet
          case rel => exact ⟨gx, k3, o3, b3, t3, A3, n3, c3, L3, rfl, rfl, rfl, hSf, hgB, bxf, rf.any, (fun y hy => ⟨(df y hy).1.any, (df y hy).2⟩), nc3, mc3⟩
        · go_simp
          obtain ⟨va, hva⟩ : ∃ va, va = World.alloc v2 (.cells #[.int .i64 0, .int .i64 0, .slice none 0 0] 31) := ⟨_, rfl⟩
          obtain ⟨gx, hgx⟩ : ∃ g, g = v2.heap.size := ⟨_, rfl⟩
          have bxa : Bx va gx #[.int .i64 0, .int .i64 0, .slice none 0 0] := by subst hva hgx; exact Bx.new _ _ _ rfl
          have hb : Below v2.heap.size v2 va := by subst hva; exact (Below.refl _ _).alloc (Nat.le_refl _) _
          have hga := bxa.lt
          have hgB : W0.heap.size ≤ gx := by rw [hgx]; exact hS.size
          replace r2 := r2.below hb
          replace d2 := d2.below hb
          replace g2 := g2.below hb
          replace e2 := e2.below hb
          have hS2 := Hup.out _ _ hS hb
          clear hS
          have hS := hS2
          rw [← hgx, ← hva]
          clear hS2 hb hva hgx
          refine hK (fun W => Below W0.heap.size W0 W) _ _ (fun W h => h) hS ?_
          clear hK K
          try simp only [Act.put, List.setIfInBounds_toArray, List.set_cons_zero, List.set_cons_succ]
          repeat (first
            | (refine wpS_take (v := ?_) rfl rfl (by rfl) ?_ ?_; rotate_left; (intro W hW; have hf := Sof.out W hW; go_split_ands; go_simp; try with_reducible rfl); try simp only [Act.put, List.setIfInBounds_toArray, List.set_cons_zero, List.set_cons_succ])
            | (refine wpS_skip rfl rfl (by rfl) ?_; try simp only [Act.put, List.setIfInBounds_toArray, List.set_cons_zero, List.set_cons_succ]))
          refine wpS_one rfl (by rfl) (fun K hK => ?_)
          go_simp
          go_at_call 10
          refine (Hmg.out _ A2 c2 L2 M2 cm2 more2 r2 d2 m2 g2 e2 ms2).mono ?_
          rintro e v3 ⟨b3, t3, A3, n3, c3, L3, k3, o3, rfl, r3, d3, nc3, mc3, hb⟩
          have r3n : Rd v3 (fun q => q ≠ gx) 4 A3 n3 (flat ecell L3) := r3.mono (fun q hq => by omega)
          have d3n : ∀ y ∈ L3, Rd v3 (fun q => q ≠ gx) 1 y.A y.n (bs y.d) ∧ y.n ≤ y.m ∧ y.m ≤ maxLen := fun y hy => ⟨(d3 y hy).1.mono (fun q hq => by omega), (d3 y hy).2⟩
          replace r2 := r2.below hb
          replace d2 := d2.below hb
          replace g2 := g2.below hb
          replace e2 := e2.below hb
          replace bxa := bxa.below hb
          replace hga := Nat.lt_of_lt_of_le hga hb.size
          have hS2 := Hup.out _ _ hS hb
          clear hS
          have hS := hS2
          clear hS2 hb
          refine hK (fun W => Below W0.heap.size W0 W) _ _ (fun W h => h) hS ?_
          clear hK K
          try simp only [Act.put, List.setIfInBounds_toArray, List.set_cons_zero, List.set_cons_succ]
          repeat (first
            | (refine wpS_take (v := ?_) rfl rfl (by rfl) ?_ ?_; rotate_left; (intro W hW; have hf := Sof.out W hW; go_split_ands; go_simp; try with_reducible rfl); try simp only [Act.put, List.setIfInBounds_toArray, List.set_cons_zero, List.set_cons_succ])
            | (refine wpS_skip rfl rfl (by rfl) ?_; try simp only [Act.put, List.setIfInBounds_toArray, List.set_cons_zero, List.set_cons_succ]))
          obtain ⟨z0, z1, z2, z3, z4, z5⟩ := bxa.c3
          refine wpS_one rfl (by rfl) (fun K hK => ?_)
          go_simp
          have bxf := sto3 (a1 := .int .i64 b3) (a2 := .int .i64 t3) (a3 := .slice A3 n3 c3) (A := none) (xs := []) (n := 0) bxa
          have rf := sto3_rd (g := gx) (a1 := .int .i64 b3) (a2 := .int .i64 t3) (a3 := .slice A3 n3 c3) r3n (fun h => h rfl)
          have df : ∀ y ∈ L3, Rd _ (fun q => q ≠ gx) 1 y.A y.n (bs y.d) ∧ y.n ≤ y.m ∧ y.m ≤ maxLen := fun y hy => ⟨sto3_rd (g := gx) (a1 := .int .i64 b3) (a2 := .int .i64 t3) (a3 := .slice A3 n3 c3) (d3n y hy).1 (fun h => h rfl), (d3n y hy).2⟩
          have hSf := sto3_below (a1 := .int .i64 b3) (a2 := .int .i64 t3) (a3 := .slice A3 n3 c3) hS hgB
          refine hK (fun W => Below W0.heap.size W0 W) _ _ (fun W h => h) hSf ?_
          clear hK K z0 z1 z2 z3 z4 z5 hS
          try simp only [Act.put, List.setIfInBounds_toArray, List.set_cons_zero, List.set_cons_succ]
          repeat (first
            | (refine wpS_take (v := ?_) rfl rfl (by rfl) ?_ ?_; rotate_left; (intro W hW; have hf := Sof.out W hW; go_split_ands; go_simp; try with_reducible rfl); try simp only [Act.put, List.setIfInBounds_toArray, List.set_cons_zero, List.set_cons_succ])
            | (refine wpS_skip rfl rfl (by rfl) ?_; try simp only [Act.put, List.setIfInBounds_toArray, List.set_cons_zero, List.set_cons_succ]))
          refine wpS_last rfl (by rfl) (fun K hK => ?_)
          go_simp
          refine hK _ _ ?_
          clear hK K
          try simp only [Act.put, List.setIfInBounds_toArray, List.set_cons_zero, List.set_cons_succ]
          refine wpS_nil ?_
          go_wp2_with fail
          go_meet
          case rel => exact ⟨gx, k3, o3, b3, t3, A3, n3, c3, L3, rfl, rfl, rfl, hSf, hgB, bxf, rf.any, (fun y hy => ⟨(df y hy).1.any, (df y hy).2⟩), nc3, mc3⟩
      · go_simp
        obtain ⟨va, hva⟩ : ∃ va, va = World.alloc v1 (.cells #[.int .i64 0, .int .i64 0, .slice none 0 0] 31) := ⟨_, rfl⟩
        obtain ⟨gx, hgx⟩ : ∃ g, g = v1.heap.size := ⟨_, rfl⟩
        have bxa : Bx va gx #[.int .i64 0, .int .i64 0, .slice none 0 0] := by subst hva hgx; exact Bx.new _ _ _ rfl
        have hb : Below v1.heap.size v1 va := by subst hva; exact (Below.refl _ _).alloc (Nat.le_refl _) _
        have hga := bxa.lt
        have hgB : W0.heap.size ≤ gx := by rw [hgx]; exact hS.size
        replace r2 := r2.below hb
        replace d2 := d2.below hb
        have hS2 := Hup.out _ _ hS hb
        clear hS
        have hS := hS2
        rw [← hgx, ← hva]
        clear hS2 hb hva hgx
        refine hK (fun W => Below W0.heap.size W0 W) _ _ (fun W h => h) hS ?_
        clear hK K
        try simp only [Act.put, List.setIfInBounds_toArray, List.set_cons_zero, List.set_cons_succ]
        repeat (first
          | (refine wpS_take (v := ?_) rfl rfl (by rfl) ?_ ?_; rotate_left; (intro W hW; have hf := Sof.out W hW; go_split_ands; go_simp; try with_reducible rfl); try simp only [Act.put, List.setIfInBounds_toArray, List.set_cons_zero, List.set_cons_succ])
          | (refine wpS_skip rfl rfl (by rfl) ?_; try simp only [Act.put, List.setIfInBounds_toArray, List.set_cons_zero, List.set_cons_succ]))
        refine wpS_one rfl (by rfl) (fun K hK => ?_)
        go_simp
        go_at_call 12
        refine (Ggv.out _ hS).mono ?_
        rintro e v2 ⟨M2, cm2, more2, rfl, ro2, ms2, hb⟩
        have g2 := ro2.rd
        have e2 := ro2.dat
        clear ro2
        replace r2 := r2.below hb
        replace d2 := d2.below hb
        replace bxa := bxa.below hb
        replace hga := Nat.lt_of_lt_of_le hga hb.size
        have hS2 := Hup.out _ _ hS hb
        clear hS
        have hS := hS2
        clear hS2 hb
        refine hK (fun W => Below W0.heap.size W0 W) _ _ (fun W h => h) hS ?_
        clear hK K
        try simp only [Act.put, List.setIfInBounds_toArray, List.set_cons_zero, List.set_cons_succ]
        repeat (first
          | (refine wpS_take (v := ?_) rfl rfl (by rfl) ?_ ?_; rotate_left; (intro W hW; have hf := Sof.out W hW; go_split_ands; go_simp; try with_reducible rfl); try simp only [Act.put, List.setIfInBounds_toArray, List.set_cons_zero, List.set_cons_succ])
          | (refine wpS_skip rfl rfl (by rfl) ?_; try simp only [Act.put, List.setIfInBounds_toArray, List.set_cons_zero, List.set_cons_succ]))
        refine wpS_one rfl (by rfl) (fun K hK => ?_)
        go_simp
        go_at_call 10
        refine (Hmg.out _ A2 c2 L2 M2 cm2 more2 r2 d2 m2 g2 e2 ms2).mono ?_
        rintro e v3 ⟨b3, t3, A3, n3, c3, L3, k3, o3, rfl, r3, d3, nc3, mc3, hb⟩
        have r3n : Rd v3 (fun q => q ≠ gx) 4 A3 n3 (flat ecell L3) := r3.mono (fun q hq => by omega)
        have d3n : ∀ y ∈ L3, Rd v3 (fun q => q ≠ gx) 1 y.A y.n (bs y.d) ∧ y.n ≤ y.m ∧ y.m ≤ maxLen := fun y hy => ⟨(d3 y hy).1.mono (fun q hq => by omega), (d3 y hy).2⟩
        replace r2 := r2.below hb
        replace d2 := d2.below hb
        replace g2 := g2.below hb
        replace e2 := e2.below hb
        replace bxa := bxa.below hb
        replace hga := Nat.lt_of_lt_of_le hga hb.size
        have hS2 := Hup.out _ _ hS hb
        clear hS
        have hS := hS2
        clear hS2 hb
        refine hK (fun W => Below W0.heap.size W0 W) _ _ (fun W h => h) hS ?_
        clear hK K
        try simp only [Act.put, List.setIfInBounds_toArray, List.set_cons_zero, List.set_cons_succ]
        repeat (first
          | (refine wpS_take (v := ?_) rfl rfl (by rfl) ?_ ?_; rotate_left; (intro W hW; have hf := Sof.out W hW; go_split_ands; go_simp; try with_reducible rfl); try simp only [Act.put, List.setIfInBounds_toArray, List.set_cons_zero, List.set_cons_succ])
          | (refine wpS_skip rfl rfl (by rfl) ?_; try simp only [Act.put, List.setIfInBounds_toArray, List.set_cons_zero, List.set_cons_succ]))
        obtain ⟨z0, z1, z2, z3, z4, z5⟩ := bxa.c3
        refine wpS_one rfl (by rfl) (fun K hK => ?_)
        go_simp
        have bxf := sto3 (a1 := .int .i64 b3) (a2 := .int .i64 t3) (a3 := .slice A3 n3 c3) (A := none) (xs := []) (n := 0) bxa
        have rf := sto3_rd (g := gx) (a1 := .int .i64 b3) (a2 := .int .i64 t3) (a3 := .slice A3 n3 c3) r3n (fun h => h rfl)
        have df : ∀ y ∈ L3, Rd _ (fun q => q ≠ gx) 1 y.A y.n (bs y.d) ∧ y.n ≤ y.m ∧ y.m ≤ maxLen := fun y hy => ⟨sto3_rd (g := gx) (a1 := .int .i64 b3) (a2 := .int .i64 t3) (a3 := .slice A3 n3 c3) (d3n y hy).1 (fun h => h rfl), (d3n y hy).2⟩
        have hSf := sto3_below (a1 := .int .i64 b3) (a2 := .int .i64 t3) (a3 := .slice A3 n3 c3) hS hgB
        refine hK (fun W => Below W0.heap.size W0 W) _ _ (fun W h => h) hSf ?_
        clear hK K z0 z1 z2 z3 z4 z5 hS
        try simp only [Act.put, List.setIfInBounds_toArray, List.set_cons_zero, List.set_cons_succ]
        repeat (first
          | (refine wpS_take (v := ?_) rfl rfl (by rfl) ?_ ?_; rotate_left; (intro W hW; have hf := Sof.out W hW; go_split_ands; go_simp; try with_reducible rfl); try simp only [Act.put, List.setIfInBounds_toArray, List.set_cons_zero, List.set_cons_succ])
          | (refine wpS_skip rfl rfl (by rfl) ?_; try simp only [Act.put, List.setIfInBounds_toArray, List.set_cons_zero, List.set_cons_succ]))
        refine wpS_last rfl (by rfl) (fun K hK => ?_)
        go_simp
        refine hK _ _ ?_
        clear hK K
        try simp only [Act.put, List.setIfInBounds_toArray, List.set_cons_zero, List.set_cons_succ]
        refine wpS_nil ?_
        go_wp2_with fail
        go_meet
        case rel => exact ⟨gx, k3, o3, b3, t3, A3, n3, c3, L3, rfl, rfl, rfl, hSf, hgB, bxf, rf.any, (fun y hy => ⟨(df y hy).1.any, (df y hy).2⟩), nc3, mc3⟩
    · go_simp
      obtain ⟨va, hva⟩ : ∃ va, va = World.alloc wd (.cells #[.int .i64 0, .int .i64 0, .slice none 0 0] 31) := ⟨_, rfl⟩
      obtain ⟨gx, hgx⟩ : ∃ g, g = wd.heap.size := ⟨_, rfl⟩
      have bxa : Bx va gx #[.int .i64 0, .int .i64 0, .slice none 0 0] := by subst hva hgx; exact Bx.new _ _ _ rfl
      have hb : Below wd.heap.size wd va := by subst hva; exact (Below.refl _ _).alloc (Nat.le_refl _) _
      have hga := bxa.lt
      have hgB : W0.heap.size ≤ gx := by rw [hgx]; exact hS.size
      have hS2 := Hup.out _ _ hS hb
      clear hS
      have hS := hS2
      rw [← hgx, ← hva]
      clear hS2 hb hva hgx
      refine hK (fun W => Below W0.heap.size W0 W) _ _ (fun W h => h) hS ?_
      clear hK K
      try simp only [Act.put, List.setIfInBounds_toArray, List.set_cons_zero, List.set_cons_succ]
      repeat (first
        | (refine wpS_take (v := ?_) rfl rfl (by rfl) ?_ ?_; rotate_left; (intro W hW; have hf := Sof.out W hW; go_split_ands; go_simp; try with_reducible rfl); try simp only [Act.put, List.setIfInBounds_toArray, List.set_cons_zero, List.set_cons_succ])
        | (refine wpS_skip rfl rfl (by rfl) ?_; try simp only [Act.put, List.setIfInBounds_toArray, List.set_cons_zero, List.set_cons_succ]))
      refine wpS_one rfl (by rfl) (fun K hK => ?_)
      go_simp
      go_at_call 11
      refine (Hgv.out _ hS).mono ?_
      rintro e v1 ⟨A2, c2, L2, rfl, r2, d2, m2, n2, x2, hb⟩
      clear n2 x2
      replace bxa := bxa.below hb
      replace hga := Nat.lt_of_lt_of_le hga hb.size
      have hS2 := Hup.out _ _ hS hb
      clear hS
      have hS := hS2
      clear hS2 hb
      refine hK (fun W => Below W0.heap.size W0 W) _ _ (fun W h => h) hS ?_
      clear hK K
      try simp only [Act.put, List.setIfInBounds_toArray, List.set_cons_zero, List.set_cons_succ]
      repeat (first
        | (refine wpS_take (v := ?_) rfl rfl (by rfl) ?_ ?_; rotate_left; (intro W hW; have hf := Sof.out W hW; go_split_ands; go_simp; try with_reducible rfl); try simp only [Act.put, List.setIfInBounds_toArray, List.set_cons_zero, List.set_cons_succ])
        | (refine wpS_skip rfl rfl (by rfl) ?_; try simp only [Act.put, List.setIfInBounds_toArray, List.set_cons_zero, List.set_cons_succ]))
      refine wpS_one rfl (by rfl) (fun K hK => ?_)
      go_simp
      go_at_call 12
      refine (Ggv.out _ hS).mono ?_
      rintro e v2 ⟨M2, cm2, more2, rfl, ro2, ms2, hb⟩
      have g2 := ro2.rd
      have e2 := ro2.dat
      clear ro2
      replace r2 := r2.below hb
      replace d2 := d2.below hb
      replace bxa := bxa.below hb
      replace hga := Nat.lt_of_lt_of_le hga hb.size
      have hS2 := Hup.out _ _ hS hb
      clear hS
      have hS := hS2
      clear hS2 hb
      refine hK (fun W => Below W0.heap.size W0 W) _ _ (fun W h => h) hS ?_
      clear hK K
      try simp only [Act.put, List.setIfInBounds_toArray, List.set_cons_zero, List.set_cons_succ]
      repeat (first
        | (refine wpS_take (v := ?_) rfl rfl (by rfl) ?_ ?_; rotate_left; (intro W hW; have hf := Sof.out W hW; go_split_ands; go_simp; try with_reducible rfl); try simp only [Act.put, List.setIfInBounds_toArray, List.set_cons_zero, List.set_cons_succ])
        | (refine wpS_skip rfl rfl (by rfl) ?_; try simp only [Act.put, List.setIfInBounds_toArray, List.set_cons_zero, List.set_cons_succ]))
      refine wpS_one rfl (by rfl) (fun K hK => ?_)
      go_simp
      go_at_call 10
      refine (Hmg.out _ A2 c2 L2 M2 cm2 more2 r2 d2 m2 g2 e2 ms2).mono ?_
      rintro e v3 ⟨b3, t3, A3, n3, c3, L3, k3, o3, rfl, r3, d3, nc3, mc3, hb⟩
      have r3n : Rd v3 (fun q => q ≠ gx) 4 A3 n3 (flat ecell L3) := r3.mono (fun q hq => by omega)
      have d3n : ∀ y ∈ L3, Rd v3 (fun q => q ≠ gx) 1 y.A y.n (bs y.d) ∧ y.n ≤ y.m ∧ y.m ≤ maxLen := fun y hy => ⟨(d3 y hy).1.mono (fun q hq => by omega), (d3 y hy).2⟩
      replace r2 := r2.below hb
      replace d2 := d2.below hb
      replace g2 := g2.below hb
      replace e2 := e2.below hb
      replace bxa := bxa.below hb
      replace hga := Nat.lt_of_lt_of_le hga hb.size
      have hS2 := Hup.out _ _ hS hb
      clear hS
      have hS := hS2
      clear hS2 hb
      refine hK (fun W => Below W0.heap.size W0 W) _ _ (fun W h => h) hS ?_
      clear hK K
      try simp only [Act.put, List.setIfInBounds_toArray, List.set_cons_zero, List.set_cons_succ]
      repeat (first
        | (refine wpS_take (v := ?_) rfl rfl (by rfl) ?_ ?_; rotate_left; (intro W hW; have hf := Sof.out W hW; go_split_ands; go_simp; try with_reducible rfl); try simp only [Act.put, List.setIfInBounds_toArray, List.set_cons_zero, List.set_cons_succ])
        | (refine wpS_skip rfl rfl (by rfl) ?_; try simp only [Act.put, List.setIfInBounds_toArray, List.set_cons_zero, List.set_cons_succ]))
      obtain ⟨z0, z1, z2, z3, z4, z5⟩ := bxa.c3
      refine wpS_one rfl (by rfl) (fun K hK => ?_)
      go_simp
      have bxf := sto3 (a1 := .int .i64 b3) (a2 := .int .i64 t3) (a3 := .slice A3 n3 c3) (A := none) (xs := []) (n := 0) bxa
      have rf := sto3_rd (g := gx) (a1 := .int .i64 b3) (a2 := .int .i64 t3) (a3 := .slice A3 n3 c3) r3n (fun h => h rfl)
      have df : ∀ y ∈ L3, Rd _ (fun q => q ≠ gx) 1 y.A y.n (bs y.d) ∧ y.n ≤ y.m ∧ y.m ≤ maxLen := fun y hy => ⟨sto3_rd (g := gx) (a1 := .int .i64 b3) (a2 := .int .i64 t3) (a3 := .slice A3 n3 c3) (d3n y hy).1 (fun h => h rfl), (d3n y hy).2⟩
      have hSf := sto3_below (a1 := .int .i64 b3) (a2 := .int .i64 t3) (a3 := .slice A3 n3 c3) hS hgB
      refine hK (fun W => Below W0.heap.size W0 W) _ _ (fun W h => h) hSf ?_
      clear hK K z0 z1 z2 z3 z4 z5 hS
      try simp only [Act.put, List.setIfInBounds_toArray, List.set_cons_zero, List.set_cons_succ]
      repeat (first
        | (refine wpS_take (v := ?_) rfl rfl (by rfl) ?_ ?_; rotate_left; (intro W hW; have hf := Sof.out W hW; go_split_ands; go_simp; try with_reducible rfl); try simp only [Act.put, List.setIfInBounds_toArray, List.set_cons_zero, List.set_cons_succ])
        | (refine wpS_skip rfl rfl (by rfl) ?_; try simp only [Act.put, List.setIfInBounds_toArray, List.set_cons_zero, List.set_cons_succ]))
      refine wpS_last rfl (by rfl) (fun K hK => ?_)
      go_simp
      refine hK _ _ ?_
      clear hK K
      try simp only [Act.put, List.setIfInBounds_toArray, List.set_cons_zero, List.set_cons_succ]
      refine wpS_nil ?_
      go_wp2_with fail
      go_meet
      case rel => exact ⟨gx, k3, o3, b3, t3, A3, n3, c3, L3, rfl, rfl, rfl, hSf, hgB, bxf, rf.any, (fun y hy => ⟨(df y hy).1.any, (df y hy).2⟩), nc3, mc3⟩
  case rest =>
    obtain ⟨g, k, o, b', t', A', n', c', L', rfl, rfl, rfl, kc, mi⟩ := hcut
    obtain ⟨wz, rfl⟩ : ∃ wz, wz = wc := ⟨_, rfl⟩
    obtain ⟨hgB, bx, ra, da, nca, hcase⟩ := mi
    have Fc := Lib.hid (fun W (h : Below wz.heap.size wz W) => And.intro (Sof.out W (Hup.out _ _ kc h)) (And.intro ((bx.below h).c 0) (And.intro ((bx.below h).c 1) ((bx.below h).c 2))))
    have Rc := Lib.hid (fun W (h : Below wz.heap.size wz W) => And.intro (ra.below h) (Dat.below da h))
    have Kc := Lib.hid (fun W (h : Below wz.heap.size wz W) => Hup.out _ _ kc h)
    have hupc : ∀ W W', Below wz.heap.size wz W → Below W.heap.size W W' → Below wz.heap.size wz W' := fun W W' h h' => h.trans (h'.mono h.size)
    have Upc := Lib.hid hupc
    have hgl := bx.lt
    clear bx ra da hupc kc
    have kc : Below wz.heap.size wz wz := Below.refl _ _
    have hno : o = false ∨ (o = true ∧ yes ∧ b' = b ∧ t' = t ∧ L'.map en = R.1 ∧ k = R.2) := by
      rcases hcase with h | h | h
      · exact .inr h
      · exact .inl h.1
      · exact .inl h.1
    clear hcase
    rcases hno with rfl | ⟨rfl, hyes, hb', ht', hL', rfl⟩
    · go_wp2_with fail
      refine (sure_any _).mono ?_
      rintro e v2 ⟨rfl, h2⟩
      have k2 := Kc.out _ (Upc.out _ _ kc h2)
      clear h2
      go_wp2_with fail
      go_ret
      exact ⟨rfl, Hb0.out.trans (k2.mono Hb0.out.size)⟩
    obtain ⟨hlw1, hlw2, hlm⟩ := Hlaw.out hyes
    have hn4 : n' ≤ 4096 := by
      have h1 := (wel_lmay hlm hL' (Rc.out _ kc).2).2.2
      have h2 := (Rc.out _ kc).1.flen ecell_len (by omega)
      omega
    have hmg3 := fun (W : World) (h : Below wz.heap.size wz W) M' cm' more' r' d' hsm' => Hmg2.out W b' t' A' n' c' L' M' cm' more' hyes hb' ht' (Rc.out W h).1 (Rc.out W h).2 hL' r' d' hsm'
    have hwt : ∀ (W : World) (L2 : List Er) (x : Er), L2.map en = R.1 → Dat W L2 → x ∈ L2 → Wt x := fun W L2 x h1 h2 h3 => wt_of (lmay_wtE hlm) h1 h2 x h3
    have Hmg3 := Lib.hid hmg3
    have Hwt := Lib.hid hwt
    have HL := Lib.hid hL'
    clear hlw1 hlw2 hlm hmg3 hwt hL' hyes hb' ht' nca
    obtain ⟨⟨u0, u1, u2⟩, u3, u4, u5⟩ := Sof.out _ (Kc.out _ kc)
    go_upto_region 6 with (fail)
    clear u0 u1 u2 u3 u4 u5
    go_cut [8, 9, 10] (fun s8 s9 s10 W => ∃ (g2 : Nat) (A2 : Option Addr) (c2 : Nat) (L2 : List Er), s8 = .pointer (some ⟨g2, 0, none⟩) ∧ s9 = .int .i64 R.2 ∧ s10 = .bool true ∧ Below wz.heap.size wz W ∧ Bx W g2 #[.int .i64 b', .int .i64 t', .slice A2 n' c2] ∧ Rd W T 4 A2 n' (flat ecell L2) ∧ Dat W L2 ∧ L2.map en = R.1)
    case first =>
      have hS0 : Below wz.heap.size wz wz.drew := (Below.refl _ _).drew
      refine wp_region_S 16 (fun W => Below wz.heap.size wz W) (.take 0 (.take 1 (.take 2 (.take 3 (.take 4 (.take 5 (.take 6 (.two 7 13 (.two 8 13 (.take 9 (.take 10 (.take 11 (.take 12 (.one 13 (.one 14 (.take 15 (.one 16 (.nil))))))))) (.one 8 (.take 9 (.take 10 (.take 11 (.take 12 (.one 14 (.take 15 (.one 16 (.nil)))))))))) (.one 7 (.one 8 (.take 9 (.take 10 (.take 11 (.take 12 (.one 14 (.take 15 (.one 16 (.nil)))))))))))))))))) (by kernel_rfl) hS0 (fun _ _ _ _ h => h) (fun hS => ?_)
      obtain ⟨wd, hwd⟩ : ∃ wd, wd = World.drew wz := ⟨_, rfl⟩
      rw [← hwd] at hS ⊢
      clear hwd hS0 kc
      repeat (first
        | (refine wpS_take (v := ?_) rfl rfl (by rfl) ?_ ?_; rotate_left; (intro W hW; have hf := Fc.out W hW; go_split_ands; go_simp; try with_reducible rfl); try simp only [Act.put, List.setIfInBounds_toArray, List.set_cons_zero, List.set_cons_succ])
        | (refine wpS_skip rfl rfl (by rfl) ?_; try simp only [Act.put, List.setIfInBounds_toArray, List.set_cons_zero, List.set_cons_succ]))
      refine wpS_two rfl rfl (by rfl) (by rfl) (fun K hK => ?_) (fun K hK => ?_)
      · go_simp
        go_at_call 12
        refine (Ggv.out _ (Kc.out _ hS)).mono ?_
        rintro e v2 ⟨M2, cm2, more2, rfl, ro2, ms2, hb⟩
        have g2 := ro2.rd
        have e2 := ro2.dat
        clear ro2
        have hS2 := Upc.out _ _ hS hb
        clear hS
        have hS := hS2
        clear hS2 hb
        refine hK (fun W => Below wz.heap.size wz W) _ _ (fun W h => h) hS ?_
        clear hK K
        try simp only [Act.put, List.setIfInBounds_toArray, List.set_cons_zero, List.set_cons_succ]
        repeat (first
          | (refine wpS_take (v := ?_) rfl rfl (by rfl) ?_ ?_; rotate_left; (intro W hW; have hf := Fc.out W hW; go_split_ands; go_simp; try with_reducible rfl); try simp only [Act.put, List.setIfInBounds_toArray, List.set_cons_zero, List.set_cons_succ])
          | (refine wpS_skip rfl rfl (by rfl) ?_; try simp only [Act.put, List.setIfInBounds_toArray, List.set_cons_zero, List.set_cons_succ]))
        refine wpS_two rfl rfl (by rfl) (by rfl) (fun K hK => ?_) (fun K hK => ?_)
        · go_simp
          go_at_call 10
          refine (Hmg3.out _ hS M2 cm2 more2 g2 e2 ms2).mono ?_
          rintro e v3 ⟨A3, c3, L3, rfl, r3, d3, hm3, hb⟩
          replace g2 := g2.below hb
          replace e2 := e2.below hb
          have hS2 := Upc.out _ _ hS hb
          clear hS
          have hS := hS2
          clear hS2 hb
          refine hK (fun W => Below wz.heap.size wz W) _ _ (fun W h => h) hS ?_
          clear hK K
          try simp only [Act.put, List.setIfInBounds_toArray, List.set_cons_zero, List.set_cons_succ]
          repeat (first
            | (refine wpS_take (v := ?_) rfl rfl (by rfl) ?_ ?_; rotate_left; (intro W hW; have hf := Fc.out W hW; go_split_ands; go_simp; try with_reducible rfl); try simp only [Act.put, List.setIfInBounds_toArray, List.set_cons_zero, List.set_cons_succ])
            | (refine wpS_skip rfl rfl (by rfl) ?_; try simp only [Act.put, List.setIfInBounds_toArray, List.set_cons_zero, List.set_cons_succ]))
          refine wpS_one rfl (by rfl) (fun K hK => ?_)
          go_simp
          obtain ⟨va, hva⟩ : ∃ va, va = World.alloc v3 (.cells #[.int .i64 0, .int .i64 0, .slice none 0 0] 31) := ⟨_, rfl⟩
          obtain ⟨gx, hgx⟩ : ∃ g, g = v3.heap.size := ⟨_, rfl⟩
          have bxa : Bx va gx #[.int .i64 0, .int .i64 0, .slice none 0 0] := by subst hva hgx; exact Bx.new _ _ _ rfl
          have hb : Below v3.heap.size v3 va := by subst hva; exact (Below.refl _ _).alloc (Nat.le_refl _) _
          have hgB : wz.heap.size ≤ gx := by rw [hgx]; exact hS.size
          have r3n : Rd va (fun q => q ≠ gx) 4 A3 n' (flat ecell L3) := ((r3.lt (by omega)).mono (fun q hq => by have := hq.2; omega)).below hb
          have d3n : ∀ y ∈ L3, Rd va (fun q => q ≠ gx) 1 y.A y.n (bs y.d) ∧ y.n ≤ y.m ∧ y.m ≤ maxLen := fun y hy => ⟨(((d3 y hy).1.lt (by omega)).mono (fun q hq => by have := hq.2; omega)).below hb, (d3 y hy).2⟩
          have hS2 := Upc.out _ _ hS hb
          clear hS
          have hS := hS2
          rw [← hgx, ← hva]
          clear hS2 hb hva hgx r3 d3
          refine hK (fun W => Below wz.heap.size wz W) _ _ (fun W h => h) hS ?_
          clear hK K
          try simp only [Act.put, List.setIfInBounds_toArray, List.set_cons_zero, List.set_cons_succ]
          obtain ⟨z0, z1, z2, z3, z4, z5⟩ := bxa.c3
          refine wpS_one rfl (by rfl) (fun K hK => ?_)
          go_simp
          have bxf := sto3 (a1 := .int .i64 b') (a2 := .int .i64 t') (a3 := .slice A3 n' c3) (A := none) (xs := []) (n := 0) bxa
          have rf := sto3_rd (g := gx) (a1 := .int .i64 b') (a2 := .int .i64 t') (a3 := .slice A3 n' c3) r3n (fun h => h rfl)
          have df : ∀ y ∈ L3, Rd _ (fun q => q ≠ gx) 1 y.A y.n (bs y.d) ∧ y.n ≤ y.m ∧ y.m ≤ maxLen := fun y hy => ⟨sto3_rd (g := gx) (a1 := .int .i64 b') (a2 := .int .i64 t') (a3 := .slice A3 n' c3) (d3n y hy).1 (fun h => h rfl), (d3n y hy).2⟩
          have hSf := sto3_below (a1 := .int .i64 b') (a2 := .int .i64 t') (a3 := .slice A3 n' c3) hS hgB
          refine hK (fun W => Below wz.heap.size wz W) _ _ (fun W h => h) hSf ?_
          clear hK K z0 z1 z2 z3 z4 z5 hS
          try simp only [Act.put, List.setIfInBounds_toArray, List.set_cons_zero, List.set_cons_succ]
          repeat (first
            | (refine wpS_take (v := ?_) rfl rfl (by rfl) ?_ ?_; rotate_left; (intro W hW; have hf := Fc.out W hW; go_split_ands; go_simp; try with_reducible rfl); try simp only [Act.put, List.setIfInBounds_toArray, List.set_cons_zero, List.set_cons_succ])
            | (refine wpS_skip rfl rfl (by rfl) ?_; try simp only [Act.put, List.setIfInBounds_toArray, List.set_cons_zero, List.set_cons_succ]))
          refine wpS_last rfl (by rfl) (fun K hK => ?_)
          go_simp
          refine hK _ _ ?_
          clear hK K
          try simp only [Act.put, List.setIfInBounds_toArray, List.set_cons_zero, List.set_cons_succ]
          refine wpS_nil ?_
          go_wp2_with fail
          go_meet
          case rel => exact ⟨gx, A3, c3, L3, rfl, rfl, rfl, hSf, bxf, rf.any, (fun y hy => ⟨(df y hy).1.any, (df y hy).2⟩), hm3⟩
        · go_simp
          obtain ⟨va, hva⟩ : ∃ va, va = World.alloc v2 (.cells #[.int .i64 0, .int .i64 0, .slice none 0 0] 31) := ⟨_, rfl⟩
          obtain ⟨gx, hgx⟩ : ∃ g, g = v2.heap.size := ⟨_, rfl⟩
          have bxa : Bx va gx #[.int .i64 0, .int .i64 0, .slice none 0 0] := by subst hva hgx; exact Bx.new _ _ _ rfl
          have hb : Below v2.heap.size v2 va := by subst hva; exact (Below.refl _ _).alloc (Nat.le_refl _) _
          have hga := bxa.lt
          have hgB : wz.heap.size ≤ gx := by rw [hgx]; exact hS.size
          replace g2 := g2.below hb
          replace e2 := e2.below hb
          have hS2 := Upc.out _ _ hS hb
          clear hS
          have hS := hS2
          rw [← hgx, ← hva]
          clear hS2 hb hva hgx
          refine hK (fun W => Below wz.heap.size wz W) _ _ (fun W h => h) hS ?_
          clear hK K
          try simp only [Act.put, List.setIfInBounds_toArray, List.set_cons_zero, List.set_cons_succ]
          repeat (first
            | (refine wpS_take (v := ?_) rfl rfl (by rfl) ?_ ?_; rotate_left; (intro W hW; have hf := Fc.out W hW; go_split_ands; go_simp; try with_reducible rfl); try simp only [Act.put, List.setIfInBounds_toArray, List.set_cons_zero, List.set_cons_succ])
            | (refine wpS_skip rfl rfl (by rfl) ?_; try simp only [Act.put, List.setIfInBounds_toArray, List.set_cons_zero, List.set_cons_succ]))
          refine wpS_one rfl (by rfl) (fun K hK => ?_)
          go_simp
          go_at_call 10
          refine (Hmg3.out _ hS M2 cm2 more2 g2 e2 ms2).mono ?_
          rintro e v3 ⟨A3, c3, L3, rfl, r3, d3, hm3, hb⟩
          have r3n : Rd v3 (fun q => q ≠ gx) 4 A3 n' (flat ecell L3) := r3.mono (fun q hq => by omega)
          have d3n : ∀ y ∈ L3, Rd v3 (fun q => q ≠ gx) 1 y.A y.n (bs y.d) ∧ y.n ≤ y.m ∧ y.m ≤ maxLen := fun y hy => ⟨(d3 y hy).1.mono (fun q hq => by omega), (d3 y hy).2⟩
          replace g2 := g2.below hb
          replace e2 := e2.below hb
          replace bxa := bxa.below hb
          replace hga := Nat.lt_of_lt_of_le hga hb.size
          have hS2 := Upc.out _ _ hS hb
          clear hS
          have hS := hS2
          clear hS2 hb
          refine hK (fun W => Below wz.heap.size wz W) _ _ (fun W h => h) hS ?_
          clear hK K
          try simp only [Act.put, List.setIfInBounds_toArray, List.set_cons_zero, List.set_cons_succ]
          repeat (first
            | (refine wpS_take (v := ?_) rfl rfl (by rfl) ?_ ?_; rotate_left; (intro W hW; have hf := Fc.out W hW; go_split_ands; go_simp; try with_reducible rfl); try simp only [Act.put, List.setIfInBounds_toArray, List.set_cons_zero, List.set_cons_succ])
            | (refine wpS_skip rfl rfl (by rfl) ?_; try simp only [Act.put, List.setIfInBounds_toArray, List.set_cons_zero, List.set_cons_succ]))
          obtain ⟨z0, z1, z2, z3, z4, z5⟩ := bxa.c3
          refine wpS_one rfl (by rfl) (fun K hK => ?_)
          go_simp
          have bxf := sto3 (a1 := .int .i64 b') (a2 := .int .i64 t') (a3 := .slice A3 n' c3) (A := none) (xs := []) (n := 0) bxa
          have rf := sto3_rd (g := gx) (a1 := .int .i64 b') (a2 := .int .i64 t') (a3 := .slice A3 n' c3) r3n (fun h => h rfl)
          have df : ∀ y ∈ L3, Rd _ (fun q => q ≠ gx) 1 y.A y.n (bs y.d) ∧ y.n ≤ y.m ∧ y.m ≤ maxLen := fun y hy => ⟨sto3_rd (g := gx) (a1 := .int .i64 b') (a2 := .int .i64 t') (a3 := .slice A3 n' c3) (d3n y hy).1 (fun h => h rfl), (d3n y hy).2⟩
          have hSf := sto3_below (a1 := .int .i64 b') (a2 := .int .i64 t') (a3 := .slice A3 n' c3) hS hgB
          refine hK (fun W => Below wz.heap.size wz W) _ _ (fun W h => h) hSf ?_
          clear hK K z0 z1 z2 z3 z4 z5 hS
          try simp only [Act.put, List.setIfInBounds_toArray, List.set_cons_zero, List.set_cons_succ]
          repeat (first
            | (refine wpS_take (v := ?_) rfl rfl (by rfl) ?_ ?_; rotate_left; (intro W hW; have hf := Fc.out W hW; go_split_ands; go_simp; try with_reducible rfl); try simp only [Act.put, List.setIfInBounds_toArray, List.set_cons_zero, List.set_cons_succ])
            | (refine wpS_skip rfl rfl (by rfl) ?_; try simp only [Act.put, List.setIfInBounds_toArray, List.set_cons_zero, List.set_cons_succ]))
          refine wpS_last rfl (by rfl) (fun K hK => ?_)
          go_simp
          refine hK _ _ ?_
          clear hK K
          try simp only [Act.put, List.setIfInBounds_toArray, List.set_cons_zero, List.set_cons_succ]
          refine wpS_nil ?_
          go_wp2_with fail
          go_meet
          case rel => exact ⟨gx, A3, c3, L3, rfl, rfl, rfl, hSf, bxf, rf.any, (fun y hy => ⟨(df y hy).1.any, (df y hy).2⟩), hm3⟩
      · go_simp
        obtain ⟨va, hva⟩ : ∃ va, va = World.alloc wd (.cells #[.int .i64 0, .int .i64 0, .slice none 0 0] 31) := ⟨_, rfl⟩
        obtain ⟨gx, hgx⟩ : ∃ g, g = wd.heap.size := ⟨_, rfl⟩
        have bxa : Bx va gx #[.int .i64 0, .int .i64 0, .slice none 0 0] := by subst hva hgx; exact Bx.new _ _ _ rfl
        have hb : Below wd.heap.size wd va := by subst hva; exact (Below.refl _ _).alloc (Nat.le_refl _) _
        have hga := bxa.lt
        have hgB : wz.heap.size ≤ gx := by rw [hgx]; exact hS.size
        have hS2 := Upc.out _ _ hS hb
        clear hS
        have hS := hS2
        rw [← hgx, ← hva]
        clear hS2 hb hva hgx
        refine hK (fun W => Below wz.heap.size wz W) _ _ (fun W h => h) hS ?_
        clear hK K
        try simp only [Act.put, List.setIfInBounds_toArray, List.set_cons_zero, List.set_cons_succ]
        repeat (first
          | (refine wpS_take (v := ?_) rfl rfl (by rfl) ?_ ?_; rotate_left; (intro W hW; have hf := Fc.out W hW; go_split_ands; go_simp; try with_reducible rfl); try simp only [Act.put, List.setIfInBounds_toArray, List.set_cons_zero, List.set_cons_succ])
          | (refine wpS_skip rfl rfl (by rfl) ?_; try simp only [Act.put, List.setIfInBounds_toArray, List.set_cons_zero, List.set_cons_succ]))
        refine wpS_one rfl (by rfl) (fun K hK => ?_)
        go_simp
        go_at_call 12
        refine (Ggv.out _ (Kc.out _ hS)).mono ?_
        rintro e v2 ⟨M2, cm2, more2, rfl, ro2, ms2, hb⟩
        have g2 := ro2.rd
        have e2 := ro2.dat
        clear ro2
        replace bxa := bxa.below hb
        replace hga := Nat.lt_of_lt_of_le hga hb.size
        have hS2 := Upc.out _ _ hS hb
        clear hS
        have hS := hS2
        clear hS2 hb
        refine hK (fun W => Below wz.heap.size wz W) _ _ (fun W h => h) hS ?_
        clear hK K
        try simp only [Act.put, List.setIfInBounds_toArray, List.set_cons_zero, List.set_cons_succ]
        repeat (first
          | (refine wpS_take (v := ?_) rfl rfl (by rfl) ?_ ?_; rotate_left; (intro W hW; have hf := Fc.out W hW; go_split_ands; go_simp; try with_reducible rfl); try simp only [Act.put, List.setIfInBounds_toArray, List.set_cons_zero, List.set_cons_succ])
          | (refine wpS_skip rfl rfl (by rfl) ?_; try simp only [Act.put, List.setIfInBounds_toArray, List.set_cons_zero, List.set_cons_succ]))
        refine wpS_one rfl (by rfl) (fun K hK => ?_)
        go_simp
        go_at_call 10
        refine (Hmg3.out _ hS M2 cm2 more2 g2 e2 ms2).mono ?_
        rintro e v3 ⟨A3, c3, L3, rfl, r3, d3, hm3, hb⟩
        have r3n : Rd v3 (fun q => q ≠ gx) 4 A3 n' (flat ecell L3) := r3.mono (fun q hq => by omega)
        have d3n : ∀ y ∈ L3, Rd v3 (fun q => q ≠ gx) 1 y.A y.n (bs y.d) ∧ y.n ≤ y.m ∧ y.m ≤ maxLen := fun y hy => ⟨(d3 y hy).1.mono (fun q hq => by omega), (d3 y hy).2⟩
        replace g2 := g2.below hb
        replace e2 := e2.below hb
        replace bxa := bxa.below hb
        replace hga := Nat.lt_of_lt_of_le hga hb.size
        have hS2 := Upc.out _ _ hS hb
        clear hS
        have hS := hS2
        clear hS2 hb
        refine hK (fun W => Below wz.heap.size wz W) _ _ (fun W h => h) hS ?_
        clear hK K
        try simp only [Act.put, List.setIfInBounds_toArray, List.set_cons_zero, List.set_cons_succ]
        repeat (first
          | (refine wpS_take (v := ?_) rfl rfl (by rfl) ?_ ?_; rotate_left; (intro W hW; have hf := Fc.out W hW; go_split_ands; go_simp; try with_reducible rfl); try simp only [Act.put, List.setIfInBounds_toArray, List.set_cons_zero, List.set_cons_succ])
          | (refine wpS_skip rfl rfl (by rfl) ?_; try simp only [Act.put, List.setIfInBounds_toArray, List.set_cons_zero, List.set_cons_succ]))
        obtain ⟨z0, z1, z2, z3, z4, z5⟩ := bxa.c3
        refine wpS_one rfl (by rfl) (fun K hK => ?_)
        go_simp
        have bxf := sto3 (a1 := .int .i64 b') (a2 := .int .i64 t') (a3 := .slice A3 n' c3) (A := none) (xs := []) (n := 0) bxa
        have rf := sto3_rd (g := gx) (a1 := .int .i64 b') (a2 := .int .i64 t') (a3 := .slice A3 n' c3) r3n (fun h => h rfl)
        have df : ∀ y ∈ L3, Rd _ (fun q => q ≠ gx) 1 y.A y.n (bs y.d) ∧ y.n ≤ y.m ∧ y.m ≤ maxLen := fun y hy => ⟨sto3_rd (g := gx) (a1 := .int .i64 b') (a2 := .int .i64 t') (a3 := .slice A3 n' c3) (d3n y hy).1 (fun h => h rfl), (d3n y hy).2⟩
        have hSf := sto3_below (a1 := .int .i64 b') (a2 := .int .i64 t') (a3 := .slice A3 n' c3) hS hgB
        refine hK (fun W => Below wz.heap.size wz W) _ _ (fun W h => h) hSf ?_
        clear hK K z0 z1 z2 z3 z4 z5 hS
        try simp only [Act.put, List.setIfInBounds_toArray, List.set_cons_zero, List.set_cons_succ]
        repeat (first
          | (refine wpS_take (v := ?_) rfl rfl (by rfl) ?_ ?_; rotate_left; (intro W hW; have hf := Fc.out W hW; go_split_ands; go_simp; try with_reducible rfl); try simp only [Act.put, List.setIfInBounds_toArray, List.set_cons_zero, List.set_cons_succ])
          | (refine wpS_skip rfl rfl (by rfl) ?_; try simp only [Act.put, List.setIfInBounds_toArray, List.set_cons_zero, List.set_cons_succ]))
        refine wpS_last rfl (by rfl) (fun K hK => ?_)
        go_simp
        refine hK _ _ ?_
        clear hK K
        try simp only [Act.put, List.setIfInBounds_toArray, List.set_cons_zero, List.set_cons_succ]
        refine wpS_nil ?_
        go_wp2_with fail
        go_meet
        case rel => exact ⟨gx, A3, c3, L3, rfl, rfl, rfl, hSf, bxf, rf.any, (fun y hy => ⟨(df y hy).1.any, (df y hy).2⟩), hm3⟩
    case rest =>
      obtain ⟨wq, hwq⟩ : ∃ x, x = n' := ⟨_, rfl⟩
      obtain ⟨g2, A2, c2, L2, rfl, rfl, rfl, k2, bx2, r2, d2, hL2⟩ := hcut
      have Fz := Lib.hid (fun W (h : Below wc.heap.size wc W) => And.intro (Fc.out W (k2.trans (h.mono k2.size))) (And.intro ((bx2.below h).c 0) (And.intro ((bx2.below h).c 1) ((bx2.below h).c 2))))
      have Rz := Lib.hid (fun W (h : Below wc.heap.size wc W) => And.intro (Rc.out W (k2.trans (h.mono k2.size))) (And.intro (r2.below h) (Dat.below d2 h)))
      have Kz := Lib.hid (fun W (h : Below wc.heap.size wc W) => Kc.out W (k2.trans (h.mono k2.size)))
      have hupz : ∀ W W', Below wc.heap.size wc W → Below W.heap.size W W' → Below wc.heap.size wc W' := fun W W' h h' => h.trans (h'.mono h.size)
      have Upz := Lib.hid hupz
      have HL2 := Lib.hid hL2
      have kz := Lib.hid (show Below wc.heap.size wc wc from Below.refl _ _)
      clear bx2 r2 d2 hL2 k2 hupz hwq
      obtain ⟨⟨⟨⟨u0, u1, u2⟩, u3, u4, u5⟩, u6, u7, u8⟩, u9, ua, ub⟩ := Fz.out _ kz.out
      go_wp2_with fail
      clear u0 u1 u2 u3 u4 u5 u6 u7 u8 u9 ua ub
      go_loopg [11] n' (fun m s11 wr => ∃ j : Nat, m = n' - j ∧ j ≤ n' ∧ s11 = .int .i64 j ∧ Below wc.heap.size wc wr)
      case atStart => exact ⟨0, by omega, by omega, rfl, kz.out⟩
      case round =>
        obtain ⟨j, hm, hj, rfl, hb⟩ := hrel
        have Hm := Lib.hid hm
        have Hb := Lib.hid hb
        clear hm
        obtain ⟨⟨⟨⟨u0, u1, u2⟩, u3, u4, u5⟩, u6, u7, u8⟩, u9, ua, ub⟩ := Fz.out _ hb
        by_cases hlt : j < n'
        · obtain ⟨bk, o, x, eA, _, hbl, hx, c0, c1, c2, c3⟩ := er_cells (Rz.out _ hb).1.1 hlt
          obtain ⟨bk', o', y, eA', _, hbl', hy, c0', c1', c2', c3'⟩ := er_cells (Rz.out _ hb).2.1 hlt
          have hen : en y = en x := by
            have e1 := congrArg (fun l => l[j]?) (HL2.out.trans HL.out.symm)
            simp only [List.getElem?_map, hx, hy, Option.map_some] at e1
            exact Option.some.inj e1
          have hwx := Hwt.out _ _ x HL.out (Rz.out _ hb).1.2 (List.mem_of_getElem? hx)
          have hwy := Hwt.out _ _ y HL2.out (Rz.out _ hb).2.2 (List.mem_of_getElem? hy)
          have hdx := ((Rz.out _ hb).1.2 x (List.mem_of_getElem? hx)).1
          have hdy := ((Rz.out _ hb).2.2 y (List.mem_of_getElem? hy)).1
          have hencx := fun (W : World) (h : Below wr.heap.size wr W) => enc_er x W hwx (hdx.below h) (Htb.out W (Kz.out W (Upz.out _ _ hb h)))
          have hency := fun (W : World) (h : Below wr.heap.size wr W) => enc_er y W hwy (hdy.below h) (Htb.out W (Kz.out W (Upz.out _ _ hb h)))
          rw [hen] at hency
          have Hencx := Lib.hid hencx
          have Hency := Lib.hid hency
          have hjI : (j : Int) < n' := by omega
          have hj0 : (0 : Int) ≤ j := by omega
          have hwj : IntKind.i64.wrap ((j : Int) + 1) = (j : Int) + 1 := by rw [IntKind.wrap_i64]; omega
          subst eA eA'
          have Fr := Lib.hid (fun W (h : Below wr.heap.size wr W) => And.intro (Fz.out W (Upz.out _ _ hb h)) (And.intro (And.intro ((h.cell (p := ⟨bk, o + j * 4, none⟩) hbl).trans c0) (And.intro ((h.cell (p := ⟨bk, o + j * 4 + 1, none⟩) hbl).trans c1) (And.intro ((h.cell (p := ⟨bk, o + j * 4 + 2, none⟩) hbl).trans c2) ((h.cell (p := ⟨bk, o + j * 4 + 3, none⟩) hbl).trans c3)))) (And.intro ((h.cell (p := ⟨bk', o' + j * 4, none⟩) hbl').trans c0') (And.intro ((h.cell (p := ⟨bk', o' + j * 4 + 1, none⟩) hbl').trans c1') (And.intro ((h.cell (p := ⟨bk', o' + j * 4 + 2, none⟩) hbl').trans c2') ((h.cell (p := ⟨bk', o' + j * 4 + 3, none⟩) hbl').trans c3'))))))
          clear hx hy hen hwx hwy hdx hdy hencx hency c0 c1 c2 c3 c0' c1' c2' c3' hb
          go_upto_region 12 with (fail)
          have ho : Below wr.heap.size wr wr.drew := (Below.refl _ _).drew
          clear u0 u1 u2 u3 u4 u5 u6 u7 u8 u9 ua ub
          refine wp_region_S 14 (fun W => Below wr.heap.size wr W) (.take 0 (.take 1 (.take 2 (.take 3 (.take 4 (.take 7 (.take 8 (.take 9 (.take 10 (.take 11 (.one 5 (.take 6 (.one 12 (.take 13 (.one 14 (.nil)))))))))))))))) (by kernel_rfl) ho (fun _ _ _ _ h => h) (fun hS => ?_)
          repeat (first
            | (refine wpS_take (v := ?_) rfl rfl (by rfl) ?_ ?_; rotate_left; (intro W hW; have hf := Fr.out W hW; go_split_ands; go_simp; try with_reducible rfl); try simp only [Act.put, List.setIfInBounds_toArray, List.set_cons_zero, List.set_cons_succ])
            | (refine wpS_skip rfl rfl (by rfl) ?_; try simp only [Act.put, List.setIfInBounds_toArray, List.set_cons_zero, List.set_cons_succ]))
          refine wpS_one rfl (by rfl) (fun K hK => ?_)
          go_simp
          go_at_call 13
          refine (Hencx.out _ hS).mono ?_
          rintro e v4 ⟨A4, n4, c4, rfl, o4, hb4⟩
          have hS4 := hS.trans (hb4.mono hS.size)
          have r4 := (Rd.of_own o4).any
          have F4 := Lib.hid (fun W (h : Below v4.heap.size v4 W) => And.intro (Fr.out W (hS4.trans (h.mono hS4.size))) (cvB (r4.below h) c4))
          have HS4 := Lib.hid hS4
          clear hS o4 r4 hS4 hb4
          refine hK (fun W => Below v4.heap.size v4 W) _ _ (fun W h => HS4.out.trans (h.mono HS4.out.size)) (Below.refl _ _) ?_
          clear hK K
          try simp only [Act.put, List.setIfInBounds_toArray, List.set_cons_zero, List.set_cons_succ]
          have hS : Below v4.heap.size v4 v4 := Below.refl _ _
          repeat (first
            | (refine wpS_take (v := ?_) rfl rfl (by rfl) ?_ ?_; rotate_left; (intro W hW; have hf := F4.out W hW; go_split_ands; go_simp; try with_reducible rfl); try simp only [Act.put, List.setIfInBounds_toArray, List.set_cons_zero, List.set_cons_succ])
            | (refine wpS_skip rfl rfl (by rfl) ?_; try simp only [Act.put, List.setIfInBounds_toArray, List.set_cons_zero, List.set_cons_succ]))
          refine wpS_one rfl (by rfl) (fun K hK => ?_)
          go_simp
          go_at_call 13
          refine (Hency.out _ HS4.out).mono ?_
          rintro e v5 ⟨A5, n5, c5, rfl, o5, hb5⟩
          have hS5 := hS.trans hb5
          have r5 := (Rd.of_own o5).any
          have F5 := Lib.hid (fun W (h : Below v5.heap.size v5 W) => And.intro (F4.out W (hS5.trans (h.mono hS5.size))) (cvB (r5.below h) c5))
          have HS5 := Lib.hid hS5
          have J5 := Lib.hid (HS4.out.trans (hS5.mono HS4.out.size))
          clear hS o5 r5 hS5 hb5
          refine hK (fun W => Below v5.heap.size v5 W) _ _ (fun W h => HS5.out.trans (h.mono HS5.out.size)) (Below.refl _ _) ?_
          clear hK K
          try simp only [Act.put, List.setIfInBounds_toArray, List.set_cons_zero, List.set_cons_succ]
          have hS : Below v5.heap.size v5 v5 := Below.refl _ _
          repeat (first
            | (refine wpS_take (v := ?_) rfl rfl (by rfl) ?_ ?_; rotate_left; (intro W hW; have hf := F5.out W hW; go_split_ands; go_simp; try with_reducible rfl); try simp only [Act.put, List.setIfInBounds_toArray, List.set_cons_zero, List.set_cons_succ])
            | (refine wpS_skip rfl rfl (by rfl) ?_; try simp only [Act.put, List.setIfInBounds_toArray, List.set_cons_zero, List.set_cons_succ]))
          refine wpS_last rfl (by rfl) (fun K hK => ?_)
          go_simp
          refine hK _ _ ?_
          clear hK K
          try simp only [Act.put, List.setIfInBounds_toArray, List.set_cons_zero, List.set_cons_succ]
          refine wpS_nil ?_
          go_wp2_with fail
          go_roundg (n' - (j + 1))
          case measure => have := Hm.out; omega
          case rel => exact ⟨j + 1, rfl, by omega, by go_num, Upz.out _ _ Hb.out J5.out⟩
        · obtain rfl : j = n' := by omega
          have hjI : ¬ ((j : Int) < j) := by omega
          go_wp2_with fail
          refine (sure_any _).mono ?_
          rintro e v2 ⟨rfl, h2⟩
          have k2 := Kz.out _ (Upz.out _ _ hb h2)
          clear h2
          go_wp2_with fail
          go_ret
          exact ⟨rfl, Hb0.out.trans (k2.mono Hb0.out.size)⟩
end Go.Proofs.YtefjejlpbfbpcaaDoor
