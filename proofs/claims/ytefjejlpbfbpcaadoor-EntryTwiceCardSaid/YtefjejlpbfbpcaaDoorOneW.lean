/- Walk of tollbarlaw09.EntryOne. (Printed by mkone.py.) -/
import Derived.Test.YtefjejlpbfbpcaaDoorMergeA
import Derived.Test.YtefjejlpbfbpcaaDoorCompW
import Derived.Test.YtefjejlpbfbpcaaDoorLogsW
import Derived.Test.YtefjejlpbfbpcaaDoorSched
namespace Go.Proofs.YtefjejlpbfbpcaaDoor
open Go.RowKit
set_option maxRecDepth 100000
set_option linter.unusedVariables false
set_option linter.unusedSimpArgs false
/-- Three cells of a box of the call's own, stored. -/
theorem sto3 {W : World} {g n : Nat} {p q r a1 a2 a3 : Value} {A : Option Addr} {xs : List Value} (X : Bx W g #[p, q, r]) :
    Bx (((W.setCell ⟨g, 0, none⟩ a1).setCell ⟨g, 1, none⟩ a2).setCell ⟨g, 2, none⟩ a3) g #[a1, a2, a3] := by
  simpa using ((X.set 0 a1).set 1 a2).set 2 a3
theorem sto3_rd {W : World} {g k n : Nat} {a1 a2 a3 : Value} {A : Option Addr} {xs : List Value} {ok : Nat → Prop} (h : Rd W ok k A n xs) (hn : ¬ ok g) :
    Rd (((W.setCell ⟨g, 0, none⟩ a1).setCell ⟨g, 1, none⟩ a2).setCell ⟨g, 2, none⟩ a3) ok k A n xs :=
  ((h.setCell (p := ⟨g, 0, none⟩) hn _).setCell (p := ⟨g, 1, none⟩) hn _).setCell (p := ⟨g, 2, none⟩) hn _
theorem sto3_below {W0 W : World} {B g : Nat} {a1 a2 a3 : Value} (h : Below B W0 W) (hg : B ≤ g) : Below B W0 (((W.setCell ⟨g, 0, none⟩ a1).setCell ⟨g, 1, none⟩ a2).setCell ⟨g, 2, none⟩ a3) :=
  ((h.setCell (p := ⟨g, 0, none⟩) hg _).setCell (p := ⟨g, 1, none⟩) hg _).setCell (p := ⟨g, 2, none⟩) hg _
/-- What Merge told, kept in a box. -/
def MgIn (W : World) (B : Nat) (g : Nat) (b t : Int) (l : List En) (yes : Prop) (R : List En × Int) (k : Int) (o : Bool) (b' t' : Int) (A : Option Addr) (n c : Nat) (L' : List Er) : Prop :=
  B ≤ g ∧ Bx W g #[.int .i64 b', .int .i64 t', .slice A n c] ∧ Rd W T 4 A n (flat ecell L') ∧ Dat W L' ∧ n ≤ c ∧ MgCase b t l yes R b' t' (L'.map en) k o
theorem wel_lmay {b t : Int} {l : List En} {W : World} {L' : List Er} (h : lmay b t l = true) (he : L'.map en = l) (hd : Dat W L') : Wel L' ∧ (∀ x ∈ L', x.n ≤ 1000000) ∧ L'.length ≤ 4096 := by
  have h3 := (lmay_iff.1 h).2.1
  rw [← he, List.length_map] at h3
  have key : ∀ x ∈ L', (W64 x ∧ x.n = x.d.length) ∧ x.n ≤ 1000000 := by
    intro x hx
    have h1 := lmay_wtE h (en x) (by rw [← he]; exact List.mem_map.2 ⟨x, hx, rfl⟩)
    have h2 := (hd x hx).1.blen
    have e1 : (en x).a = x.a := rfl
    have e2 : (en x).b = x.b := rfl
    have e3 : (en x).c = x.c := rfl
    have e4 : (en x).d = x.d := rfl
    unfold WtE at h1
    rw [e1, e2, e3, e4] at h1
    unfold W64 I64
    omega
  exact ⟨fun x hx => (key x hx).1, fun x hx => (key x hx).2, h3⟩
set_option maxHeartbeats 6400000 in
theorem one_walk (b t ix tm : Int) (A : Option Addr) (n c : Nat) (L : List Er) (M : Option Addr) (nm cm : Nat) (more : List Er) (w : World) (hr : Rd w T 4 A n (flat ecell L)) (hd : Dat w L) (hw : ∀ y ∈ L, W64 y ∧ y.n ≤ 140737488351232) (hn : n ≤ 9223372036854775807) (gr : Rd w T 4 M nm (flat ecell more)) (gd : Dat w more) (gw : ∀ y ∈ more, W64 y ∧ y.n ≤ 140737488351232) (gn : nm ≤ 9223372036854775807) (htab : TabW w) :
    Calls Tryd.prog 5 #[.agg #[.int .i64 b, .int .i64 t, .slice A n c], .agg #[.int .i64 ix, .int .i64 tm, .slice M nm cm]] w (YesPost w) := by
  obtain ⟨W0, hW0⟩ : ∃ W0, W0 = (w.alloc (.cells #[.int .i64 b, .int .i64 t, .slice A n c] 24)).alloc (.cells #[.int .i64 ix, .int .i64 tm, .slice M nm cm] 26) := ⟨_, rfl⟩
  have bx0 : Bx W0 w.heap.size #[.int .i64 b, .int .i64 t, .slice A n c] := by subst hW0; exact (Bx.new _ _ _ rfl).alloc _
  have bx1 : Bx W0 (w.heap.size + 1) #[.int .i64 ix, .int .i64 tm, .slice M nm cm] := by subst hW0; exact Bx.new _ _ _ (by simp)
  have hb0 : Below w.heap.size w W0 := by subst hW0; exact ((Below.refl _ _).alloc (Nat.le_refl _) _).alloc (by simp) _
  have r0 : Rd W0 T 4 A n (flat ecell L) := hr.below hb0
  have d0 : Dat W0 L := hd.below hb0
  have q0 : Rd W0 T 4 M nm (flat ecell more) := gr.below hb0
  have e0 : Dat W0 more := gd.below hb0
  have t0 : TabW W0 := htab.below hb0 (Nat.le_refl _)
  have hwl : Wel L := fun y hy => ⟨(hw y hy).1, ((hd y hy).1.blen).symm⟩
  have gwl : Wel more := fun y hy => ⟨(gw y hy).1, ((gd y hy).1.blen).symm⟩
  have sof : ∀ W, Below W0.heap.size W0 W → ((W.cell? ⟨w.heap.size, 0, none⟩ = some (.int .i64 b) ∧ W.cell? ⟨w.heap.size, 1, none⟩ = some (.int .i64 t) ∧ W.cell? ⟨w.heap.size, 2, none⟩ = some (.slice A n c)) ∧ W.cell? ⟨w.heap.size + 1, 0, none⟩ = some (.int .i64 ix) ∧ W.cell? ⟨w.heap.size + 1, 1, none⟩ = some (.int .i64 tm) ∧ W.cell? ⟨w.heap.size + 1, 2, none⟩ = some (.slice M nm cm)) := fun W h => ⟨⟨(bx0.below h).c 0, (bx0.below h).c 1, (bx0.below h).c 2⟩, (bx1.below h).c 0, (bx1.below h).c 1, (bx1.below h).c 2⟩
  have hlg := fun (W : World) (h : Below W0.heap.size W0 W) => longs_any A n c L W (r0.below h) (fun x hx => (hw x hx).2) hn
  have glg := fun (W : World) (h : Below W0.heap.size W0 W) => longs_any M nm cm more W (q0.below h) (fun x hx => (gw x hx).2) gn
  obtain ⟨lg, hlgv⟩ : ∃ lg, longB L = lg := ⟨_, rfl⟩
  obtain ⟨lg2, glgv⟩ : ∃ lg, longB more = lg := ⟨_, rfl⟩
  rw [hlgv] at hlg
  rw [glgv] at glg
  have hup : ∀ W W', Below W0.heap.size W0 W → Below W.heap.size W W' → Below W0.heap.size W0 W' := fun W W' h h' => h.trans (h'.mono h.size)
  have Hb0 := Lib.hid hb0
  have Sof := Lib.hid sof
  have HW := Lib.hid hW0
  have Hlg := Lib.hid hlg
  have Glg := Lib.hid glg
  have Hup := Lib.hid hup
  by_cases hlong : lg = true ∨ lg2 = true
  · clear hr hd hw hW0 bx0 bx1 hb0 r0 d0 q0 e0 t0 hwl gwl sof hlg glg hlgv glgv htab hup gr gd gw
    go_enter Tryd.func5, Tryd.ntmps5
    go_wp2_with fail
    rw [← HW.out]
    obtain ⟨⟨u0, u1, u2⟩, u3, u4, u5⟩ := Sof.out _ (Below.refl _ _)
    go_wp2_with fail
    refine (Hlg.out _ (Below.refl _ _)).mono ?_
    rintro e w1 ⟨rfl, hb1⟩
    cases lg
    · obtain rfl : lg2 = true := by simpa using hlong
      obtain ⟨⟨u0, u1, u2⟩, u3, u4, u5⟩ := Sof.out _ hb1
      go_wp2_with fail
      refine (Glg.out _ hb1).mono ?_
      rintro e w2 ⟨rfl, hb2⟩
      have k2 := Hup.out _ _ hb1 hb2
      clear hb2
      go_wp2_with fail
      refine (sure_any _).mono ?_
      rintro e w9 ⟨rfl, hb9⟩
      have k9 := Hup.out _ _ k2 hb9
      clear hb9
      go_wp2_with fail
      go_ret
      exact ⟨rfl, Hb0.out.trans (k9.mono Hb0.out.size)⟩
    · go_wp2_with fail
      refine (sure_any _).mono ?_
      rintro e w9 ⟨rfl, hb9⟩
      have k9 := Hup.out _ _ hb1 hb9
      clear hb9
      go_wp2_with fail
      go_ret
      exact ⟨rfl, Hb0.out.trans (k9.mono Hb0.out.size)⟩
  obtain ⟨rfl, rfl⟩ : lg = false ∧ lg2 = false := by cases lg <;> cases lg2 <;> simp_all
  obtain ⟨hl1, hl2⟩ := longB_no hlgv
  obtain ⟨gl1, gl2⟩ := longB_no glgv
  have hlen := hr.flen ecell_len (by omega)
  have glen := gr.flen ecell_len (by omega)
  have hn2 : n ≤ 200 := by omega
  have gn2 : nm ≤ 200 := by omega
  have hs : ∀ x ∈ L, x.n ≤ 1000000 := fun x hx => by have := hl2 x hx; omega
  have gs : ∀ x ∈ more, x.n ≤ 1000000 := fun x hx => by have := gl2 x hx; omega
  have hgv := fun (W : World) (h : Below W0.heap.size W0 W) => giveLog_any b t A n c L W (r0.below h) (d0.below h) hs (by omega)
  have ggv := fun (W : World) (h : Below W0.heap.size W0 W) => gives_any M nm cm more W (q0.below h) (e0.below h) gs (by omega)
  have hmg : ∀ (W : World) A' c' (L' : List Er) M' cm' (more' : List Er), Rd W T 4 A' n (flat ecell L') → Dat W L' → L'.map en = L.map en → Rd W T 4 M' nm (flat ecell more') → Dat W more' → more'.map en = more.map en → Calls Tryd.prog 10 #[.agg #[.int .i64 b, .int .i64 t, .slice A' n c'], .int .i64 ix, .int .i64 tm, .slice M' nm cm'] W (MergePost W b t (L.map en) (mergeB b t (L.map en) ix tm (more.map en)) (mergeR b (L.map en) ix (more.map en))) := fun W A' c' L' M' cm' more' r d hsm r' d' hsm' => by
    have hq := wel_mem hwl hs (fun y hy => by rw [← hsm]; exact List.mem_map.2 ⟨y, hy, rfl⟩) d
    have gq := wel_mem gwl gs (fun y hy => by rw [← hsm']; exact List.mem_map.2 ⟨y, hy, rfl⟩) d'
    have := merge_all b t ix tm A' n c' L' M' nm cm' more' W r d hq.1 hq.2 (by omega) r' d' gq.1 gq.2 (by omega)
    rw [hsm, hsm'] at this
    exact this
  obtain ⟨R, hR⟩ : ∃ R, mergeR b (L.map en) ix (more.map en) = R := ⟨_, rfl⟩
  obtain ⟨yes, hyes⟩ : ∃ yes, mergeB b t (L.map en) ix tm (more.map en) = yes := ⟨_, rfl⟩
  rw [hR, hyes] at hmg
  have Hgv := Lib.hid hgv
  have Ggv := Lib.hid ggv
  have Hmg := Lib.hid hmg
  have hlen2 : (L.map en).length = n := by rw [List.length_map, hlen]
  have glen2 : (more.map en).length = nm := by rw [List.length_map, glen]
  have hmayR := fun (W : World) (h : Below W0.heap.size W0 W) => mayR_any b t A n c L W (r0.below h) hwl (by omega)
  obtain ⟨q, hq⟩ : ∃ q, lmay b t (L.map en) = q := ⟨_, rfl⟩
  rw [hq] at hmayR
  have hsl := fun (W : World) (h : Below W0.heap.size W0 W) (A' : Option Addr) (n' c' : Nat) (L' : List Er) (r : Rd W T 4 A' n' (flat ecell L')) (d : Dat W L') (hsm : L'.map en = L.map en) (hl : lmay b t (L.map en) = true) => logs_same b t (L.map en) A' n' c' L' A n c L W r (r0.below h) (fun x hx => (d x hx).1) (fun x hx => (d0.below h x hx).1) hsm rfl (lmay_wtE hl) (by omega) (t0.below h (Nat.le_refl _))
  have hz : q = false → (0 : Int) ≠ b ∨ ((0 : Int) = b ∧ (0 : Int) ≠ t) ∨ ((0 : Int) = b ∧ (0 : Int) = t ∧ 0 ≠ n) := fun h => by
    by_cases h1 : (0 : Int) = b
    · by_cases h2 : (0 : Int) = t
      · by_cases h3 : 0 = n
        · exfalso
          have : L = [] := List.eq_nil_of_length_eq_zero (by omega)
          rw [this, ← h1, ← h2, h] at hq
          revert hq
          decide
        · exact .inr (.inr ⟨h1, h2, h3⟩)
      · exact .inr (.inl ⟨h1, h2⟩)
    · exact .inl h1
  have hlaw : yes → (∀ e ∈ more.map en, b < e.a → e.a ≤ R.2 → termL b t R.1 e.a = (0, e.b)) ∧ lmay b t R.1 = true := fun h => by
    rw [← hyes] at h
    have h2 := merge_laws h
    rw [hR] at h2
    exact ⟨h2.2.2, h2.1.1⟩
  have hcs : ∀ (W : World) g k o b' t' (A' : Option Addr) (n' c' : Nat) (L' : List Er), MgIn W W0.heap.size g b t (L.map en) yes R k o b' t' A' n' c' L' → (o = true ∧ yes ∧ b' = b ∧ t' = t ∧ L'.map en = R.1 ∧ k = R.2) ∨ (o = false ∧ q = true ∧ b' = b ∧ t' = t ∧ L'.map en = L.map en) ∨ (o = false ∧ q = false ∧ b' = 0 ∧ t' = 0 ∧ L' = []) := fun W g k o b' t' A' n' c' L' h => by
    obtain ⟨-, -, -, -, -, h⟩ := h
    rw [← hq]
    rcases h with ⟨h1, h2, h3, h4, h5, h6⟩ | ⟨h1, h2, h3, h4, h5, h6⟩ | ⟨h1, h2, h3, h4, h5, h6⟩
    · exact .inl ⟨h1, h2, h3, h4, h5, h6⟩
    · exact .inr (.inl ⟨h1, h3, h4, h5, h6⟩)
    · exact .inr (.inr ⟨h1, h3, h4, h5, by simpa using h6⟩)
  have hrow := fun (W : World) (h : Below W0.heap.size W0 W) (j : Nat) (hj : j < nm) => er_cells (q0.below h) hj
  have hmw : ∀ (j : Nat) (x : Er), more[j]? = some x → I64 x.a ∧ I64 x.b := fun j x hx => by
    have := (gw x (List.mem_of_getElem? hx)).1
    exact ⟨this.1, this.2.1⟩
  have HmayR := Lib.hid hmayR
  have Hsl := Lib.hid hsl
  have Hz := Lib.hid hz
  have Hlaw := Lib.hid hlaw
  have Hcs := Lib.hid hcs
  have Hrow := Lib.hid hrow
  have Hmw := Lib.hid hmw
  have Hq := Lib.hid hq
  have Glen2 := Lib.hid glen2
  clear hr hd hw hW0 bx0 bx1 hb0 r0 d0 q0 e0 t0 hwl gwl sof hlg glg hl2 gl2 hlgv glgv hs gs hup hgv ggv hmg gr gd gw hlen glen hlong hR hyes hmayR hsl hz hlaw hcs hrow hmw hq hlen2 glen2
  go_enter Tryd.func5, Tryd.ntmps5
  go_wp2_with fail
  rw [← HW.out]
  obtain ⟨⟨u0, u1, u2⟩, u3, u4, u5⟩ := Sof.out _ (Below.refl _ _)
  go_wp2_with fail
  refine (Hlg.out _ (Below.refl _ _)).mono ?_
  rintro e w1 ⟨rfl, hb1⟩
  clear u0 u1 u2 u3 u4 u5
  obtain ⟨⟨u0, u1, u2⟩, u3, u4, u5⟩ := Sof.out _ hb1
  go_wp2_with fail
  refine (Glg.out _ hb1).mono ?_
  rintro e w2 ⟨rfl, hb2⟩
  have k2 := Hup.out _ _ hb1 hb2
  clear hb2 hb1 u0 u1 u2 u3 u4 u5
  go_upto_region 3 with (fail)
  go_cut [5, 6, 7] (fun s5 s6 s7 W => ∃ (g : Nat) (k : Int) (o : Bool) (b' t' : Int) (A' : Option Addr) (n' c' : Nat) (L' : List Er), s5 = .pointer (some ⟨g, 0, none⟩) ∧ s6 = .int .i64 k ∧ s7 = .bool o ∧ Below W0.heap.size W0 W ∧ MgIn W W0.heap.size g b t (L.map en) yes R k o b' t' A' n' c' L')
  case first =>
    have hS0 : Below W0.heap.size W0 w2.drew := k2.trans (Below.refl _ _).drew
    refine wp_region_S 17 (fun W => Below W0.heap.size W0 W) (.take 0 (.take 2 (.take 3 (.take 4 (.take 5 (.take 6 (.take 7 (.two 1 14 (.two 8 14 (.two 9 14 (.take 10 (.take 11 (.take 12 (.take 13 (.one 14 (.one 15 (.take 16 (.one 17 (.nil))))))))) (.one 9 (.take 10 (.take 11 (.take 12 (.take 13 (.one 15 (.take 16 (.one 17 (.nil)))))))))) (.one 8 (.one 9 (.take 10 (.take 11 (.take 12 (.take 13 (.one 15 (.take 16 (.one 17 (.nil))))))))))) (.one 1 (.one 8 (.one 9 (.take 10 (.take 11 (.take 12 (.take 13 (.one 15 (.take 16 (.one 17 (.nil))))))))))))))))))) (by kernel_rfl) hS0 (fun _ _ _ _ h => h) (fun hS => ?_)
    obtain ⟨wd, hwd⟩ : ∃ wd, wd = World.drew w2 := ⟨_, rfl⟩
    rw [← hwd] at hS ⊢
    clear hwd hS0 k2
    repeat (first
      | (refine wpS_take (v := ?_) rfl rfl (by rfl) ?_ ?_; rotate_left; (intro W hW; have hf := Sof.out W hW; go_split_ands; go_simp; try with_reducible rfl); try simp only [Act.put, List.setIfInBounds_toArray, List.set_cons_zero, List.set_cons_succ])
      | (refine wpS_skip rfl rfl (by rfl) ?_; try simp only [Act.put, List.setIfInBounds_toArray, List.set_cons_zero, List.set_cons_succ]))
    refine wpS_two rfl rfl (by rfl) (by rfl) (fun K hK => ?_) (fun K hK => ?_)
    · go_simp
      go_at_call 11
      refine (Hgv.out _ hS).mono ?_
      rintro e v1 ⟨A2, c2, L2, rfl, r2, d2, m2, n2, x2, hb⟩
      clear n2 x2
      have hS2 := Hup.out _ _ hS hb
      clear hS
      have hS := hS2
      clear hS2 hb
      refine hK (fun W => Below W0.heap.size W0 W) _ _ (fun W h => h) hS ?_
      clear hK K
      try simp only [Act.put, List.setIfInBounds_toArray, List.set_cons_zero, List.set_cons_succ]
      repeat (first
        | (refine wpS_take (v := ?_) rfl rfl (by rfl) ?_ ?_; rotate_left; (intro W hW; have hf := Sof.out W hW; go_split_ands; go_simp; try with_reducible rfl); try simp only [Act.put, List.setIfInBounds_toArray, List.set_cons_zero, List.set_cons_succ])
        | (refine wpS_skip rfl rfl (by rfl) ?_; try simp only [Act.put, List.setIfInBounds_toArray, List.set_cons_zero, List.set_cons_succ]))
      refine wpS_two rfl rfl (by rfl) (by rfl) (fun K hK => ?_) (fun K hK => ?_)
      · go_simp
        go_at_call 12
        refine (Ggv.out _ hS).mono ?_
        rintro e v2 ⟨M2, cm2, more2, rfl, ro2, ms2, hb⟩
        have g2 := ro2.rd
        have e2 := ro2.dat
        clear ro2
        replace r2 := r2.below hb
        replace d2 := d2.below hb
        have hS2 := Hup.out _ _ hS hb
        clear hS
        have hS := hS2
        clear hS2 hb
        refine hK (fun W => Below W0.heap.size W0 W) _ _ (fun W h => h) hS ?_
        clear hK K
        try simp only [Act.put, List.setIfInBounds_toArray, List.set_cons_zero, List.set_cons_succ]
        repeat (first
          | (refine wpS_take (v := ?_) rfl rfl (by rfl) ?_ ?_; rotate_left; (intro W hW; have hf := Sof.out W hW; go_split_ands; go_simp; try with_reducible rfl); try simp only [Act.put, List.setIfInBounds_toArray, List.set_cons_zero, List.set_cons_succ])
          | (refine wpS_skip rfl rfl (by rfl) ?_; try simp only [Act.put, List.setIfInBounds_toArray, List.set_cons_zero, List.set_cons_succ]))
        refine wpS_two rfl rfl (by rfl) (by rfl) (fun K hK => ?_) (fun K hK => ?_)
        · go_simp
          go_at_call 10
          refine (Hmg.out _ A2 c2 L2 M2 cm2 more2 r2 d2 m2 g2 e2 ms2).mono ?_
          rintro e v3 ⟨b3, t3, A3, n3, c3, L3, k3, o3, rfl, r3, d3, nc3, mc3, hb⟩
          replace r2 := r2.below hb
          replace d2 := d2.below hb
          replace g2 := g2.below hb
          replace e2 := e2.below hb
          have hS2 := Hup.out _ _ hS hb
          clear hS
          have hS := hS2
          clear hS2 hb
          refine hK (fun W => Below W0.heap.size W0 W) _ _ (fun W h => h) hS ?_
          clear hK K
          try simp only [Act.put, List.setIfInBounds_toArray, List.set_cons_zero, List.set_cons_succ]
          repeat (first
            | (refine wpS_take (v := ?_) rfl rfl (by rfl) ?_ ?_; rotate_left; (intro W hW; have hf := Sof.out W hW; go_split_ands; go_simp; try with_reducible rfl); try simp only [Act.put, List.setIfInBounds_toArray, List.set_cons_zero, List.set_cons_succ])
            | (refine wpS_skip rfl rfl (by rfl) ?_; try simp only [Act.put, List.setIfInBounds_toArray, List.set_cons_zero, List.set_cons_succ]))
          refine wpS_one rfl (by rfl) (fun K hK => ?_)
          go_simp
          obtain ⟨va, hva⟩ : ∃ va, va = World.alloc v3 (.cells #[.int .i64 0, .int .i64 0, .slice none 0 0] 31) := ⟨_, rfl⟩
          obtain ⟨gx, hgx⟩ : ∃ g, g = v3.heap.size := ⟨_, rfl⟩
          have bxa : Bx va gx #[.int .i64 0, .int .i64 0, .slice none 0 0] := by subst hva hgx; exact Bx.new _ _ _ rfl
          have hb : Below v3.heap.size v3 va := by subst hva; exact (Below.refl _ _).alloc (Nat.le_refl _) _
          have hgB : W0.heap.size ≤ gx := by rw [hgx]; exact hS.size
          have r3n : Rd va (fun q => q ≠ gx) 4 A3 n3 (flat ecell L3) := ((r3.lt (by omega)).mono (fun q hq => by have := hq.2; omega)).below hb
          have d3n : ∀ y ∈ L3, Rd va (fun q => q ≠ gx) 1 y.A y.n (bs y.d) ∧ y.n ≤ y.m ∧ y.m ≤ maxLen := fun y hy => ⟨(((d3 y hy).1.lt (by omega)).mono (fun q hq => by have := hq.2; omega)).below hb, (d3 y hy).2⟩
          have hS2 := Hup.out _ _ hS hb
          clear hS
          have hS := hS2
          rw [← hgx, ← hva]
          clear hS2 hb hva hgx r3 d3
          refine hK (fun W => Below W0.heap.size W0 W) _ _ (fun W h => h) hS ?_
          clear hK K
          try simp only [Act.put, List.setIfInBounds_toArray, List.set_cons_zero, List.set_cons_succ]
          obtain ⟨z0, z1, z2, z3, z4, z5⟩ := bxa.c3
          refine wpS_one rfl (by rfl) (fun K hK => ?_)
          go_simp
          have bxf := sto3 (a1 := .int .i64 b3) (a2 := .int .i64 t3) (a3 := .slice A3 n3 c3) (A := none) (xs := []) (n := 0) bxa
          have rf := sto3_rd (g := gx) (a1 := .int .i64 b3) (a2 := .int .i64 t3) (a3 := .slice A3 n3 c3) r3n (fun h => h rfl)
          have df : ∀ y ∈ L3, Rd _ (fun q => q ≠ gx) 1 y.A y.n (bs y.d) ∧ y.n ≤ y.m ∧ y.m ≤ maxLen := fun y hy => ⟨sto3_rd (g := gx) (a1 := .int .i64 b3) (a2 := .int .i64 t3) (a3 := .slice A3 n3 c3) (d3n y hy).1 (fun h => h rfl), (d3n y hy).2⟩
          have hSf := sto3_below (a1 := .int .i64 b3) (a2 := .int .i64 t3) (a3 := .slice A3 n3 c3) hS hgB
          refine hK (fun W => Below W0.heap.size W0 W) _ _ (fun W h => h) hSf ?_
          clear hK K z0 z1 z2 z3 z4 z5 hS
          try simp only [Act.put, List.setIfInBounds_toArray, List.set_cons_zero, List.set_cons_succ]
          repeat (first
            | (refine wpS_take (v := ?_) rfl rfl (by rfl) ?_ ?_; rotate_left; (intro W hW; have hf := Sof.out W hW; go_split_ands; go_simp; try with_reducible rfl); try simp only [Act.put, List.setIfInBounds_toArray, List.set_cons_zero, List.set_cons_succ])
            | (refine wpS_skip rfl rfl (by rfl) ?_; try simp only [Act.put, List.setIfInBounds_toArray, List.set_cons_zero, List.set_cons_succ]))
          refine wpS_last rfl (by rfl) (fun K hK => ?_)
          go_simp
          refine hK _ _ ?_
          clear hK K
          try simp only [Act.put, List.setIfInBounds_toArray, List.set_cons_zero, List.set_cons_succ]
          refine wpS_nil ?_
          go_wp2_with fail
          go_meet
          case rel => exact ⟨gx, k3, o3, b3, t3, A3, n3, c3, L3, rfl, rfl, rfl, hSf, hgB, bxf, rf.any, (fun y hy => ⟨(df y hy).1.any, (df y hy).2⟩), nc3, mc3⟩
        · go_simp
          obtain ⟨va, hva⟩ : ∃ va, va = World.alloc v2 (.cells #[.int .i64 0, .int .i64 0, .slice none 0 0] 31) := ⟨_, rfl⟩
          obtain ⟨gx, hgx⟩ : ∃ g, g = v2.heap.size := ⟨_, rfl⟩
          have bxa : Bx va gx #[.int .i64 0, .int .i64 0, .slice none 0 0] := by subst hva hgx; exact Bx.new _ _ _ rfl
          have hb : Below v2.heap.size v2 va := by subst hva; exact (Below.refl _ _).alloc (Nat.le_refl _) _
          have hga := bxa.lt
          have hgB : W0.heap.size ≤ gx := by rw [hgx]; exact hS.size
          replace r2 := r2.below hb
          replace d2 := d2.below hb
          replace g2 := g2.below hb
          replace e2 := e2.below hb
          have hS2 := Hup.out _ _ hS hb
          clear hS
          have hS := hS2
          rw [← hgx, ← hva]
          clear hS2 hb hva hgx
          refine hK (fun W => Below W0.heap.size W0 W) _ _ (fun W h => h) hS ?_
          clear hK K
          try simp only [Act.put, List.setIfInBounds_toArray, List.set_cons_zero, List.set_cons_succ]
          repeat (first
            | (refine wpS_take (v := ?_) rfl rfl (by rfl) ?_ ?_; rotate_left; (intro W hW; have hf := Sof.out W hW; go_split_ands; go_simp; try with_reducible rfl); try simp only [Act.put, List.setIfInBounds_toArray, List.set_cons_zero, List.set_cons_succ])
            | (refine wpS_skip rfl rfl (by rfl) ?_; try simp only [Act.put, List.setIfInBounds_toArray, List.set_cons_zero, List.set_cons_succ]))
          refine wpS_one rfl (by rfl) (fun K hK => ?_)
          go_simp
          go_at_call 10
          refine (Hmg.out _ A2 c2 L2 M2 cm2 more2 r2 d2 m2 g2 e2 ms2).mono ?_
          rintro e v3 ⟨b3, t3, A3, n3, c3, L3, k3, o3, rfl, r3, d3, nc3, mc3, hb⟩
          have r3n : Rd v3 (fun q => q ≠ gx) 4 A3 n3 (flat ecell L3) := r3.mono (fun q hq => by omega)
          have d3n : ∀ y ∈ L3, Rd v3 (fun q => q ≠ gx) 1 y.A y.n (bs y.d) ∧ y.n ≤ y.m ∧ y.m ≤ maxLen := fun y hy => ⟨(d3 y hy).1.mono (fun q hq => by omega), (d3 y hy).2⟩
          replace r2 := r2.below hb
          replace d2 := d2.below hb
          replace g2 := g2.below hb
          replace e2 := e2.below hb
          replace bxa := bxa.below hb
          replace hga := Nat.lt_of_lt_of_le hga hb.size
          have hS2 := Hup.out _ _ hS hb
          clear hS
          have hS := hS2
          clear hS2 hb
          refine hK (fun W => Below W0.heap.size W0 W) _ _ (fun W h => h) hS ?_
          clear hK K
          try simp only [Act.put, List.setIfInBounds_toArray, List.set_cons_zero, List.set_cons_succ]
          repeat (first
            | (refine wpS_take (v := ?_) rfl rfl (by rfl) ?_ ?_; rotate_left; (intro W hW; have hf := Sof.out W hW; go_split_ands; go_simp; try with_reducible rfl); try simp only [Act.put, List.setIfInBounds_toArray, List.set_cons_zero, List.set_cons_succ])
            | (refine wpS_skip rfl rfl (by rfl) ?_; try simp only [Act.put, List.setIfInBounds_toArray, List.set_cons_zero, List.set_cons_succ]))
          obtain ⟨z0, z1, z2, z3, z4, z5⟩ := bxa.c3
          refine wpS_one rfl (by rfl) (fun K hK => ?_)
          go_simp
          have bxf := sto3 (a1 := .int .i64 b3) (a2 := .int .i64 t3) (a3 := .slice A3 n3 c3) (A := none) (xs := []) (n := 0) bxa
          have rf := sto3_rd (g := gx) (a1 := .int .i64 b3) (a2 := .int .i64 t3) (a3 := .slice A3 n3 c3) r3n (fun h => h rfl)
          have df : ∀ y ∈ L3, Rd _ (fun q => q ≠ gx) 1 y.A y.n (bs y.d) ∧ y.n ≤ y.m ∧ y.m ≤ maxLen := fun y hy => ⟨sto3_rd (g := gx) (a1 := .int .i64 b3) (a2 := .int .i64 t3) (a3 := .slice A3 n3 c3) (d3n y hy).1 (fun h => h rfl), (d3n y hy).2⟩
          have hSf := sto3_below (a1 := .int .i64 b3) (a2 := .int .i64 t3) (a3 := .slice A3 n3 c3) hS hgB
          refine hK (fun W => Below W0.heap.size W0 W) _ _ (fun W h => h) hSf ?_
          clear hK K z0 z1 z2 z3 z4 z5 hS
          try simp only [Act.put, List.setIfInBounds_toArray, List.set_cons_zero, List.set_cons_succ]
          repeat (first
            | (refine wpS_take (v := ?_) rfl rfl (by rfl) ?_ ?_; rotate_left; (intro W hW; have hf := Sof.out W hW; go_split_ands; go_simp; try with_reducible rfl); try simp only [Act.put, List.setIfInBounds_toArray, List.set_cons_zero, List.set_cons_succ])
            | (refine wpS_skip rfl rfl (by rfl) ?_; try simp only [Act.put, List.setIfInBounds_toArray, List.set_cons_zero, List.set_cons_succ]))
          refine wpS_last rfl (by rfl) (fun K hK => ?_)
          go_simp
          refine hK _ _ ?_
          clear hK K
          try simp only [Act.put, List.setIfInBounds_toArray, List.set_cons_zero, List.set_cons_succ]
          refine wpS_nil ?_
          go_wp2_with fail
          go_meet
          case rel => exact ⟨gx, k3, o3, b3, t3, A3, n3, c3, L3, rfl, rfl, rfl, hSf, hgB, bxf, rf.any, (fun y hy => ⟨(df y hy).1.any, (df y hy).2⟩), nc3, mc3⟩
      · go_simp
        obtain ⟨va, hva⟩ : ∃ va, va = World.alloc v1 (.cells #[.int .i64 0, .int .i64 0, .slice none 0 0] 31) := ⟨_, rfl⟩
        obtain ⟨gx, hgx⟩ : ∃ g, g = v1.heap.size := ⟨_, rfl⟩
        have bxa : Bx va gx #[.int .i64 0, .int .i64 0, .slice none 0 0] := by subst hva hgx; exact Bx.new _ _ _ rfl
        have hb : Below v1.heap.size v1 va := by subst hva; exact (Below.refl _ _).alloc (Nat.le_refl _) _
        have hga := bxa.lt
        have hgB : W0.heap.size ≤ gx := by rw [hgx]; exact hS.size
        replace r2 := r2.below hb
        replace d2 := d2.below hb
        have hS2 := Hup.out _ _ hS hb
        clear hS
        have hS := hS2
        rw [← hgx, ← hva]
        clear hS2 hb hva hgx
        refine hK (fun W => Below W0.heap.size W0 W) _ _ (fun W h => h) hS ?_
        clear hK K
        try simp only [Act.put, List.setIfInBounds_toArray, List.set_cons_zero, List.set_cons_succ]
        repeat (first
          | (refine wpS_take (v := ?_) rfl rfl (by rfl) ?_ ?_; rotate_left; (intro W hW; have hf := Sof.out W hW; go_split_ands; go_simp; try with_reducible rfl); try simp only [Act.put, List.setIfInBounds_toArray, List.set_cons_zero, List.set_cons_succ])
          | (refine wpS_skip rfl rfl (by rfl) ?_; try simp only [Act.put, List.setIfInBounds_toArray, List.set_cons_zero, List.set_cons_succ]))
        refine wpS_one rfl (by rfl) (fun K hK => ?_)
        go_simp
        go_at_call 12
        refine (Ggv.out _ hS).mono ?_
        rintro e v2 ⟨M2, cm2, more2, rfl, ro2, ms2, hb⟩
        have g2 := ro2.rd
        have e2 := ro2.dat
        clear ro2
        replace r2 := r2.below hb
        replace d2 := d2.below hb
        replace bxa := bxa.below hb
        replace hga := Nat.lt_of_lt_of_le hga hb.size
        have hS2 := Hup.out _ _ hS hb
        clear hS
        have hS := hS2
        clear hS2 hb
        refine hK (fun W => Below W0.heap.size W0 W) _ _ (fun W h => h) hS ?_
        clear hK K
        try simp only [Act.put, List.setIfInBounds_toArray, List.set_cons_zero, List.set_cons_succ]
        repeat (first
          | (refine wpS_take (v := ?_) rfl rfl (by rfl) ?_ ?_; rotate_left; (intro W hW; have hf := Sof.out W hW; go_split_ands; go_simp; try with_reducible rfl); try simp only [Act.put, List.setIfInBounds_toArray, List.set_cons_zero, List.set_cons_succ])
          | (refine wpS_skip rfl rfl (by rfl) ?_; try simp only [Act.put, List.setIfInBounds_toArray, List.set_cons_zero, List.set_cons_succ]))
        refine wpS_one rfl (by rfl) (fun K hK => ?_)
        go_simp
        go_at_call 10
        refine (Hmg.out _ A2 c2 L2 M2 cm2 more2 r2 d2 m2 g2 e2 ms2).mono ?_
        rintro e v3 ⟨b3, t3, A3, n3, c3, L3, k3, o3, rfl, r3, d3, nc3, mc3, hb⟩
        have r3n : Rd v3 (fun q => q ≠ gx) 4 A3 n3 (flat ecell L3) := r3.mono (fun q hq => by omega)
        have d3n : ∀ y ∈ L3, Rd v3 (fun q => q ≠ gx) 1 y.A y.n (bs y.d) ∧ y.n ≤ y.m ∧ y.m ≤ maxLen := fun y hy => ⟨(d3 y hy).1.mono (fun q hq => by omega), (d3 y hy).2⟩
        replace r2 := r2.below hb
        replace d2 := d2.below hb
        replace g2 := g2.below hb
        replace e2 := e2.below hb
        replace bxa := bxa.below hb
        replace hga := Nat.lt_of_lt_of_le hga hb.size
        have hS2 := Hup.out _ _ hS hb
        clear hS
        have hS := hS2
        clear hS2 hb
        refine hK (fun W => Below W0.heap.size W0 W) _ _ (fun W h => h) hS ?_
        clear hK K
        try simp only [Act.put, List.setIfInBounds_toArray, List.set_cons_zero, List.set_cons_succ]
        repeat (first
          | (refine wpS_take (v := ?_) rfl rfl (by rfl) ?_ ?_; rotate_left; (intro W hW; have hf := Sof.out W hW; go_split_ands; go_simp; try with_reducible rfl); try simp only [Act.put, List.setIfInBounds_toArray, List.set_cons_zero, List.set_cons_succ])
          | (refine wpS_skip rfl rfl (by rfl) ?_; try simp only [Act.put, List.setIfInBounds_toArray, List.set_cons_zero, List.set_cons_succ]))
        obtain ⟨z0, z1, z2, z3, z4, z5⟩ := bxa.c3
        refine wpS_one rfl (by rfl) (fun K hK => ?_)
        go_simp
        have bxf := sto3 (a1 := .int .i64 b3) (a2 := .int .i64 t3) (a3 := .slice A3 n3 c3) (A := none) (xs := []) (n := 0) bxa
        have rf := sto3_rd (g := gx) (a1 := .int .i64 b3) (a2 := .int .i64 t3) (a3 := .slice A3 n3 c3) r3n (fun h => h rfl)
        have df : ∀ y ∈ L3, Rd _ (fun q => q ≠ gx) 1 y.A y.n (bs y.d) ∧ y.n ≤ y.m ∧ y.m ≤ maxLen := fun y hy => ⟨sto3_rd (g := gx) (a1 := .int .i64 b3) (a2 := .int .i64 t3) (a3 := .slice A3 n3 c3) (d3n y hy).1 (fun h => h rfl), (d3n y hy).2⟩
        have hSf := sto3_below (a1 := .int .i64 b3) (a2 := .int .i64 t3) (a3 := .slice A3 n3 c3) hS hgB
        refine hK (fun W => Below W0.heap.size W0 W) _ _ (fun W h => h) hSf ?_
        clear hK K z0 z1 z2 z3 z4 z5 hS
        try simp only [Act.put, List.setIfInBounds_toArray, List.set_cons_zero, List.set_cons_succ]
        repeat (first
          | (refine wpS_take (v := ?_) rfl rfl (by rfl) ?_ ?_; rotate_left; (intro W hW; have hf := Sof.out W hW; go_split_ands; go_simp; try with_reducible rfl); try simp only [Act.put, List.setIfInBounds_toArray, List.set_cons_zero, List.set_cons_succ])
          | (refine wpS_skip rfl rfl (by rfl) ?_; try simp only [Act.put, List.setIfInBounds_toArray, List.set_cons_zero, List.set_cons_succ]))
        refine wpS_last rfl (by rfl) (fun K hK => ?_)
        go_simp
        refine hK _ _ ?_
        clear hK K
        try simp only [Act.put, List.setIfInBounds_toArray, List.set_cons_zero, List.set_cons_succ]
        refine wpS_nil ?_
        go_wp2_with fail
        go_meet
        case rel => exact ⟨gx, k3, o3, b3, t3, A3, n3, c3, L3, rfl, rfl, rfl, hSf, hgB, bxf, rf.any, (fun y hy => ⟨(df y hy).1.any, (df y hy).2⟩), nc3, mc3⟩
    · go_simp
      obtain ⟨va, hva⟩ : ∃ va, va = World.alloc wd (.cells #[.int .i64 0, .int .i64 0, .slice none 0 0] 31) := ⟨_, rfl⟩
      obtain ⟨gx, hgx⟩ : ∃ g, g = wd.heap.size := ⟨_, rfl⟩
      have bxa : Bx va gx #[.int .i64 0, .int .i64 0, .slice none 0 0] := by subst hva hgx; exact Bx.new _ _ _ rfl
      have hb : Below wd.heap.size wd va := by subst hva; exact (Below.refl _ _).alloc (Nat.le_refl _) _
      have hga := bxa.lt
      have hgB : W0.heap.size ≤ gx := by rw [hgx]; exact hS.size
      have hS2 := Hup.out _ _ hS hb
      clear hS
      have hS := hS2
      rw [← hgx, ← hva]
      clear hS2 hb hva hgx
      refine hK (fun W => Below W0.heap.size W0 W) _ _ (fun W h => h) hS ?_
      clear hK K
      try simp only [Act.put, List.setIfInBounds_toArray, List.set_cons_zero, List.set_cons_succ]
      repeat (first
        | (refine wpS_take (v := ?_) rfl rfl (by rfl) ?_ ?_; rotate_left; (intro W hW; have hf := Sof.out W hW; go_split_ands; go_simp; try with_reducible rfl); try simp only [Act.put, List.setIfInBounds_toArray, List.set_cons_zero, List.set_cons_succ])
        | (refine wpS_skip rfl rfl (by rfl) ?_; try simp only [Act.put, List.setIfInBounds_toArray, List.set_cons_zero, List.set_cons_succ]))
      refine wpS_one rfl (by rfl) (fun K hK => ?_)
      go_simp
      go_at_call 11
      refine (Hgv.out _ hS).mono ?_
      rintro e v1 ⟨A2, c2, L2, rfl, r2, d2, m2, n2, x2, hb⟩
      clear n2 x2
      replace bxa := bxa.below hb
      replace hga := Nat.lt_of_lt_of_le hga hb.size
      have hS2 := Hup.out _ _ hS hb
      clear hS
      have hS := hS2
      clear hS2 hb
      refine hK (fun W => Below W0.heap.size W0 W) _ _ (fun W h => h) hS ?_
      clear hK K
      try simp only [Act.put, List.setIfInBounds_toArray, List.set_cons_zero, List.set_cons_succ]
      repeat (first
        | (refine wpS_take (v := ?_) rfl rfl (by rfl) ?_ ?_; rotate_left; (intro W hW; have hf := Sof.out W hW; go_split_ands; go_simp; try with_reducible rfl); try simp only [Act.put, List.setIfInBounds_toArray, List.set_cons_zero, List.set_cons_succ])
        | (refine wpS_skip rfl rfl (by rfl) ?_; try simp only [Act.put, List.setIfInBounds_toArray, List.set_cons_zero, List.set_cons_succ]))
      refine wpS_one rfl (by rfl) (fun K hK => ?_)
      go_simp
      go_at_call 12
      refine (Ggv.out _ hS).mono ?_
      rintro e v2 ⟨M2, cm2, more2, rfl, ro2, ms2, hb⟩
      have g2 := ro2.rd
      have e2 := ro2.dat
      clear ro2
      replace r2 := r2.below hb
      replace d2 := d2.below hb
      replace bxa := bxa.below hb
      replace hga := Nat.lt_of_lt_of_le hga hb.size
      have hS2 := Hup.out _ _ hS hb
      clear hS
      have hS := hS2
      clear hS2 hb
      refine hK (fun W => Below W0.heap.size W0 W) _ _ (fun W h => h) hS ?_
      clear hK K
      try simp only [Act.put, List.setIfInBounds_toArray, List.set_cons_zero, List.set_cons_succ]
      repeat (first
        | (refine wpS_take (v := ?_) rfl rfl (by rfl) ?_ ?_; rotate_left; (intro W hW; have hf := Sof.out W hW; go_split_ands; go_simp; try with_reducible rfl); try simp only [Act.put, List.setIfInBounds_toArray, List.set_cons_zero, List.set_cons_succ])
        | (refine wpS_skip rfl rfl (by rfl) ?_; try simp only [Act.put, List.setIfInBounds_toArray, List.set_cons_zero, List.set_cons_succ]))
      refine wpS_one rfl (by rfl) (fun K hK => ?_)
      go_simp
      go_at_call 10
      refine (Hmg.out _ A2 c2 L2 M2 cm2 more2 r2 d2 m2 g2 e2 ms2).mono ?_
      rintro e v3 ⟨b3, t3, A3, n3, c3, L3, k3, o3, rfl, r3, d3, nc3, mc3, hb⟩
      have r3n : Rd v3 (fun q => q ≠ gx) 4 A3 n3 (flat ecell L3) := r3.mono (fun q hq => by omega)
      have d3n : ∀ y ∈ L3, Rd v3 (fun q => q ≠ gx) 1 y.A y.n (bs y.d) ∧ y.n ≤ y.m ∧ y.m ≤ maxLen := fun y hy => ⟨(d3 y hy).1.mono (fun q hq => by omega), (d3 y hy).2⟩
      replace r2 := r2.below hb
      replace d2 := d2.below hb
      replace g2 := g2.below hb
      replace e2 := e2.below hb
      replace bxa := bxa.below hb
      replace hga := Nat.lt_of_lt_of_le hga hb.size
      have hS2 := Hup.out _ _ hS hb
      clear hS
      have hS := hS2
      clear hS2 hb
      refine hK (fun W => Below W0.heap.size W0 W) _ _ (fun W h => h) hS ?_
      clear hK K
      try simp only [Act.put, List.setIfInBounds_toArray, List.set_cons_zero, List.set_cons_succ]
      repeat (first
        | (refine wpS_take (v := ?_) rfl rfl (by rfl) ?_ ?_; rotate_left; (intro W hW; have hf := Sof.out W hW; go_split_ands; go_simp; try with_reducible rfl); try simp only [Act.put, List.setIfInBounds_toArray, List.set_cons_zero, List.set_cons_succ])
        | (refine wpS_skip rfl rfl (by rfl) ?_; try simp only [Act.put, List.setIfInBounds_toArray, List.set_cons_zero, List.set_cons_succ]))
      obtain ⟨z0, z1, z2, z3, z4, z5⟩ := bxa.c3
      refine wpS_one rfl (by rfl) (fun K hK => ?_)
      go_simp
      have bxf := sto3 (a1 := .int .i64 b3) (a2 := .int .i64 t3) (a3 := .slice A3 n3 c3) (A := none) (xs := []) (n := 0) bxa
      have rf := sto3_rd (g := gx) (a1 := .int .i64 b3) (a2 := .int .i64 t3) (a3 := .slice A3 n3 c3) r3n (fun h => h rfl)
      have df : ∀ y ∈ L3, Rd _ (fun q => q ≠ gx) 1 y.A y.n (bs y.d) ∧ y.n ≤ y.m ∧ y.m ≤ maxLen := fun y hy => ⟨sto3_rd (g := gx) (a1 := .int .i64 b3) (a2 := .int .i64 t3) (a3 := .slice A3 n3 c3) (d3n y hy).1 (fun h => h rfl), (d3n y hy).2⟩
      have hSf := sto3_below (a1 := .int .i64 b3) (a2 := .int .i64 t3) (a3 := .slice A3 n3 c3) hS hgB
      refine hK (fun W => Below W0.heap.size W0 W) _ _ (fun W h => h) hSf ?_
      clear hK K z0 z1 z2 z3 z4 z5 hS
      try simp only [Act.put, List.setIfInBounds_toArray, List.set_cons_zero, List.set_cons_succ]
      repeat (first
        | (refine wpS_take (v := ?_) rfl rfl (by rfl) ?_ ?_; rotate_left; (intro W hW; have hf := Sof.out W hW; go_split_ands; go_simp; try with_reducible rfl); try simp only [Act.put, List.setIfInBounds_toArray, List.set_cons_zero, List.set_cons_succ])
        | (refine wpS_skip rfl rfl (by rfl) ?_; try simp only [Act.put, List.setIfInBounds_toArray, List.set_cons_zero, List.set_cons_succ]))
      refine wpS_last rfl (by rfl) (fun K hK => ?_)
      go_simp
      refine hK _ _ ?_
      clear hK K
      try simp only [Act.put, List.setIfInBounds_toArray, List.set_cons_zero, List.set_cons_succ]
      refine wpS_nil ?_
      go_wp2_with fail
      go_meet
      case rel => exact ⟨gx, k3, o3, b3, t3, A3, n3, c3, L3, rfl, rfl, rfl, hSf, hgB, bxf, rf.any, (fun y hy => ⟨(df y hy).1.any, (df y hy).2⟩), nc3, mc3⟩
  case rest =>
    obtain ⟨g, k, o, b', t', A', n', c', L', rfl, rfl, rfl, kc, mi⟩ := hcut
    have hcase := Hcs.out _ _ _ _ _ _ _ _ _ _ mi
    obtain ⟨hgB, bx, ra, da, nca, -⟩ := mi
    have Fc := Lib.hid (fun W (h : Below wc.heap.size wc W) => And.intro (Sof.out W (Hup.out _ _ kc h)) (And.intro ((bx.below h).c 0) (And.intro ((bx.below h).c 1) ((bx.below h).c 2))))
    have Rc := Lib.hid (fun W (h : Below wc.heap.size wc W) => And.intro (ra.below h) (Dat.below da h))
    have Kc := Lib.hid (fun W (h : Below wc.heap.size wc W) => Hup.out _ _ kc h)
    have hupc : ∀ W W', Below wc.heap.size wc W → Below W.heap.size W W' → Below wc.heap.size wc W' := fun W W' h h' => h.trans (h'.mono h.size)
    have Upc := Lib.hid hupc
    clear bx ra da hupc kc
    have kc : Below wc.heap.size wc wc := Below.refl _ _
    rcases hcase with ⟨rfl, hyes, rfl, rfl, hL', rfl⟩ | ⟨rfl, rfl, rfl, rfl, hL'⟩ | ⟨rfl, rfl, rfl, rfl, rfl⟩
    · obtain ⟨hlw, hlm⟩ := Hlaw.out hyes
      obtain ⟨hwe, -, hll⟩ := wel_lmay hlm hL' (Rc.out _ kc).2
      have hfl := (Rc.out _ kc).1.flen ecell_len (by omega)
      have hterm : ∀ (W : World) (h : Below wc.heap.size wc W) (j : Nat) (x : Er), more[j]? = some x → b' < x.a → x.a ≤ R.2 → Calls Tryd.prog 19 #[.agg #[.int .i64 b', .int .i64 t', .slice A' n' c'], .int .i64 x.a] W (fun e w' => e = .returned (.tuple #[.int .i64 x.b, .nilIface]) ∧ Below W.heap.size W w') := fun W h j x hx h1 h2 => by
        have h3 := TermA_any b' t' x.a A' n' c' L' W (Rc.out W h).1 hwe (by omega)
        have h4 : termL b' t' R.1 x.a = (0, x.b) := hlw (en x) (List.mem_map.2 ⟨x, List.mem_of_getElem? hx, rfl⟩) h1 h2
        rw [hL', compL_yes hlm, h4] at h3
        exact h3
      have hchk : ∀ (W : World) (h : Below wc.heap.size wc W), Calls Tryd.prog 20 #[.agg #[.int .i64 b', .int .i64 t', .slice A' n' c']] W (fun e w' => e = .returned .nilIface ∧ Below W.heap.size W w') := fun W h => by
        have h3 := check_any b' t' A' n' c' L' W (Rc.out W h).1 hwe (by omega)
        rw [hL', hlm] at h3
        exact h3
      have Hterm := Lib.hid hterm
      have Hchk := Lib.hid hchk
      have Kk := Lib.hid kc
      clear hlw hlm hwe hll hfl hterm hchk hyes hL' nca
      obtain ⟨⟨u0, u1, u2⟩, u3, u4, u5⟩ := Sof.out _ (Kc.out _ kc)
      go_wp2_with fail
      clear u0 u1 u2 u3 u4 u5
      go_loopg [8, 9, 10] nm (fun m s8 s9 s10 wr => ∃ j : Nat, m = nm - j ∧ j ≤ nm ∧ s8 = .int .i64 j ∧ Below wc.heap.size wc wr)
      case atStart => exact ⟨0, by omega, by omega, rfl, Kk.out⟩
      case round =>
        clear kc
        obtain ⟨j, hm, hj, rfl, hb⟩ := hrel
        have Hm := Lib.hid hm
        have Hb := Lib.hid hb
        clear hm
        obtain ⟨⟨⟨u0, u1, u2⟩, u3, u4, u5⟩, u6, u7, u8⟩ := Fc.out _ hb
        by_cases hlt : j < nm
        · obtain ⟨bk, o, x, rfl, _, hbl, hx, c0, c1, c2, c3⟩ := Hrow.out _ (Kc.out _ hb) j hlt
          have hjI : (j : Int) < nm := by omega
          have hj0 : (0 : Int) ≤ j := by omega
          have hwj : IntKind.i64.wrap ((j : Int) + 1) = (j : Int) + 1 := by rw [IntKind.wrap_i64]; omega
          have Fr := Lib.hid (fun W (h : Below wr.heap.size wr W) => And.intro (Fc.out W (Upc.out _ _ hb h)) (And.intro ((h.cell (p := ⟨bk, o + j * 4, none⟩) hbl).trans c0) ((h.cell (p := ⟨bk, o + j * 4 + 1, none⟩) hbl).trans c1)))
          have Hx := Lib.hid hx
          clear hx c2 c3 c0 c1 hb
          go_upto_region 9 with (fail)
          have ho : Below wr.heap.size wr wr.drew := (Below.refl _ _).drew
          clear u0 u1 u2 u3 u4 u5 u6 u7 u8
          by_cases e1 : x.a ≤ b'
          · have e1d : decide (x.a ≤ b') = true := decide_eq_true e1
            refine wp_region_S 18 (fun W => Below wr.heap.size wr W) (.take 0 (.take 1 (.take 2 (.take 3 (.take 4 (.take 5 (.take 6 (.take 7 (.take 8 (.take 9 (.take 10 (.take 11 (.take 12 (.take 13 (.take 14 (.take 15 (.take 16 (.take 17 (.one 18 (.nil)))))))))))))))))))) (by kernel_rfl) ho (fun _ _ _ _ h => h) (fun hS => ?_)
            repeat (first
              | (refine wpS_take (v := ?_) rfl rfl (by rfl) ?_ ?_; rotate_left; (intro W hW; have hf := Fr.out W hW; go_split_ands; go_simp; try with_reducible rfl); try simp only [Act.put, List.setIfInBounds_toArray, List.set_cons_zero, List.set_cons_succ])
              | (refine wpS_skip rfl rfl (by rfl) ?_; try simp only [Act.put, List.setIfInBounds_toArray, List.set_cons_zero, List.set_cons_succ]))
            refine wpS_last rfl (by rfl) (fun K hK => ?_)
            go_simp
            refine hK _ _ ?_
            clear hK K
            try simp only [Act.put, List.setIfInBounds_toArray, List.set_cons_zero, List.set_cons_succ]
            refine wpS_nil ?_
            go_wp2_with fail
            go_roundg (nm - (j + 1))
            case measure => have := Hm.out; omega
            case rel => exact ⟨j + 1, rfl, by omega, by go_num, Upc.out _ _ Hb.out hS⟩
          have e1d : decide (x.a ≤ b') = false := decide_eq_false e1
          by_cases e2 : R.2 < x.a
          · have e2d : decide (R.2 < x.a) = true := decide_eq_true e2
            refine wp_region_S 18 (fun W => Below wr.heap.size wr W) (.take 0 (.take 1 (.take 2 (.take 3 (.take 4 (.take 5 (.take 6 (.take 7 (.take 8 (.take 9 (.take 10 (.take 11 (.take 12 (.take 13 (.take 14 (.take 15 (.take 16 (.take 17 (.one 18 (.nil)))))))))))))))))))) (by kernel_rfl) ho (fun _ _ _ _ h => h) (fun hS => ?_)
            repeat (first
              | (refine wpS_take (v := ?_) rfl rfl (by rfl) ?_ ?_; rotate_left; (intro W hW; have hf := Fr.out W hW; go_split_ands; go_simp; try with_reducible rfl); try simp only [Act.put, List.setIfInBounds_toArray, List.set_cons_zero, List.set_cons_succ])
              | (refine wpS_skip rfl rfl (by rfl) ?_; try simp only [Act.put, List.setIfInBounds_toArray, List.set_cons_zero, List.set_cons_succ]))
            refine wpS_last rfl (by rfl) (fun K hK => ?_)
            go_simp
            refine hK _ _ ?_
            clear hK K
            try simp only [Act.put, List.setIfInBounds_toArray, List.set_cons_zero, List.set_cons_succ]
            refine wpS_nil ?_
            go_wp2_with fail
            go_roundg (nm - (j + 1))
            case measure => have := Hm.out; omega
            case rel => exact ⟨j + 1, rfl, by omega, by go_num, Upc.out _ _ Hb.out hS⟩
          have e2d : decide (R.2 < x.a) = false := decide_eq_false e2
          refine wp_region_S 18 (fun W => Below wr.heap.size wr W) (.take 0 (.take 1 (.take 2 (.take 3 (.take 4 (.take 5 (.take 6 (.take 7 (.take 8 (.take 9 (.take 10 (.take 11 (.take 12 (.take 13 (.take 14 (.take 15 (.take 16 (.take 17 (.one 18 (.nil)))))))))))))))))))) (by kernel_rfl) ho (fun _ _ _ _ h => h) (fun hS => ?_)
          repeat (first
            | (refine wpS_take (v := ?_) rfl rfl (by rfl) ?_ ?_; rotate_left; (intro W hW; have hf := Fr.out W hW; go_split_ands; go_simp; try with_reducible rfl); try simp only [Act.put, List.setIfInBounds_toArray, List.set_cons_zero, List.set_cons_succ])
            | (refine wpS_skip rfl rfl (by rfl) ?_; try simp only [Act.put, List.setIfInBounds_toArray, List.set_cons_zero, List.set_cons_succ]))
          refine wpS_last rfl (by rfl) (fun K hK => ?_)
          go_simp
          refine hK _ _ ?_
          clear hK K
          try simp only [Act.put, List.setIfInBounds_toArray, List.set_cons_zero, List.set_cons_succ]
          refine wpS_nil ?_
          go_upto_region 10 with (fail)
          have ho2 : Below wr.heap.size wr (World.drew (World.drew wr)) := hS.trans (Below.refl _ _).drew
          clear hS
          refine wp_region_S 12 (fun W => Below wr.heap.size wr W) (.take 0 (.take 1 (.take 2 (.take 3 (.take 4 (.take 5 (.take 6 (.one 7 (.take 8 (.take 9 (.take 10 (.take 11 (.one 12 (.nil)))))))))))))) (by kernel_rfl) ho2 (fun _ _ _ _ h => h) (fun hS => ?_)
          repeat (first
            | (refine wpS_take (v := ?_) rfl rfl (by rfl) ?_ ?_; rotate_left; (intro W hW; have hf := Fr.out W hW; go_split_ands; go_simp; try with_reducible rfl); try simp only [Act.put, List.setIfInBounds_toArray, List.set_cons_zero, List.set_cons_succ])
            | (refine wpS_skip rfl rfl (by rfl) ?_; try simp only [Act.put, List.setIfInBounds_toArray, List.set_cons_zero, List.set_cons_succ]))
          refine wpS_one rfl (by rfl) (fun K hK => ?_)
          go_simp
          go_at_call 19
          refine (Hterm.out _ (Upc.out _ _ Hb.out hS) j x Hx.out (by omega) (by omega)).mono ?_
          rintro e v5 ⟨rfl, hb5⟩
          have hS5 := hS.trans (hb5.mono hS.size)
          clear hS
          have hS := hS5
          clear hS5 hb5
          refine hK (fun W => Below wr.heap.size wr W) _ _ (fun W h => h) hS ?_
          clear hK K
          try simp only [Act.put, List.setIfInBounds_toArray, List.set_cons_zero, List.set_cons_succ]
          repeat (first
            | (refine wpS_take (v := ?_) rfl rfl (by rfl) ?_ ?_; rotate_left; (intro W hW; have hf := Fr.out W hW; go_split_ands; go_simp; try with_reducible rfl); try simp only [Act.put, List.setIfInBounds_toArray, List.set_cons_zero, List.set_cons_succ])
            | (refine wpS_skip rfl rfl (by rfl) ?_; try simp only [Act.put, List.setIfInBounds_toArray, List.set_cons_zero, List.set_cons_succ]))
          refine wpS_last rfl (by rfl) (fun K hK => ?_)
          go_simp
          refine hK _ _ ?_
          clear hK K
          try simp only [Act.put, List.setIfInBounds_toArray, List.set_cons_zero, List.set_cons_succ]
          refine wpS_nil ?_
          obtain ⟨⟨⟨⟨u0, u1, u2⟩, u3, u4, u5⟩, u6, u7, u8⟩, c0, c1⟩ := Fr.out _ hS
          have nxx : (x.b != x.b) = false := by simp
          go_wp2_with fail
          go_roundg (nm - (j + 1))
          case measure => have := Hm.out; omega
          case rel => exact ⟨j + 1, rfl, by omega, by go_num, Upc.out _ _ Hb.out hS⟩
        · obtain rfl : j = nm := by omega
          have hjI : ¬ ((j : Int) < j) := by omega
          go_wp2_with fail
          refine (Hchk.out _ hb).mono ?_
          rintro e v1 ⟨rfl, h1⟩
          have k1 := Upc.out _ _ hb h1
          clear h1 u0 u1 u2 u3 u4 u5 u6 u7 u8
          go_wp2_with fail
          refine (sure_any _).mono ?_
          rintro e v2 ⟨rfl, h2⟩
          have k2 := Kc.out _ (Upc.out _ _ k1 h2)
          clear h2
          go_wp2_with fail
          go_ret
          exact ⟨rfl, Hb0.out.trans (k2.mono Hb0.out.size)⟩
    · go_upto_region 5 with (fail)
      have ho : Below wc.heap.size wc wc.drew := (Below.refl _ _).drew
      refine wp_region_S 23 (fun W => Below wc.heap.size wc W) (.take 0 (.take 1 (.take 3 (.one 2 (.one 4 (.take 5 (.take 6 (.one 7 (.take 8 (.take 9 (.take 10 (.one 11 (.take 12 (.take 13 (.take 14 (.take 15 (.take 16 (.take 17 (.take 18 (.take 19 (.one 20 (.take 21 (.take 22 (.one 23 (.nil))))))))))))))))))))))))) (by kernel_rfl) ho (fun _ _ _ _ h => h) (fun hS => ?_)
      repeat (first
        | (refine wpS_take (v := ?_) rfl rfl (by rfl) ?_ ?_; rotate_left; (intro W hW; have hf := Fc.out W hW; go_split_ands; go_simp; try with_reducible rfl); try simp only [Act.put, List.setIfInBounds_toArray, List.set_cons_zero, List.set_cons_succ])
        | (refine wpS_skip rfl rfl (by rfl) ?_; try simp only [Act.put, List.setIfInBounds_toArray, List.set_cons_zero, List.set_cons_succ]))
      refine wpS_one rfl (by rfl) (fun K hK => ?_)
      go_simp
      go_at_call 17
      refine (Hsl.out _ (Kc.out _ hS) A' n' c' L' (Rc.out _ hS).1 (Rc.out _ hS).2 hL' Hq.out).mono ?_
      rintro e v5 ⟨rfl, hb5⟩
      have hS5 := Upc.out _ _ hS hb5
      clear hS
      have hS := hS5
      clear hS5 hb5
      refine hK (fun W => Below wc.heap.size wc W) _ _ (fun W h => h) hS ?_
      clear hK K
      try simp only [Act.put, List.setIfInBounds_toArray, List.set_cons_zero, List.set_cons_succ]
      repeat (first
        | (refine wpS_take (v := ?_) rfl rfl (by rfl) ?_ ?_; rotate_left; (intro W hW; have hf := Fc.out W hW; go_split_ands; go_simp; try with_reducible rfl); try simp only [Act.put, List.setIfInBounds_toArray, List.set_cons_zero, List.set_cons_succ])
        | (refine wpS_skip rfl rfl (by rfl) ?_; try simp only [Act.put, List.setIfInBounds_toArray, List.set_cons_zero, List.set_cons_succ]))
      refine wpS_one rfl (by rfl) (fun K hK => ?_)
      go_simp
      go_at_call 18
      refine (HmayR.out _ (Kc.out _ hS)).mono ?_
      rintro e v6 ⟨rfl, hb6⟩
      have hS6 := Upc.out _ _ hS hb6
      clear hS
      have hS := hS6
      clear hS6 hb6
      refine hK (fun W => Below wc.heap.size wc W) _ _ (fun W h => h) hS ?_
      clear hK K
      try simp only [Act.put, List.setIfInBounds_toArray, List.set_cons_zero, List.set_cons_succ]
      repeat (first
        | (refine wpS_take (v := ?_) rfl rfl (by rfl) ?_ ?_; rotate_left; (intro W hW; have hf := Fc.out W hW; go_split_ands; go_simp; try with_reducible rfl); try simp only [Act.put, List.setIfInBounds_toArray, List.set_cons_zero, List.set_cons_succ])
        | (refine wpS_skip rfl rfl (by rfl) ?_; try simp only [Act.put, List.setIfInBounds_toArray, List.set_cons_zero, List.set_cons_succ]))
      refine wpS_one rfl (by rfl) (fun K hK => ?_)
      go_simp
      go_at_call 9
      refine (sure_any _).mono ?_
      rintro e v7 ⟨rfl, hb7⟩
      have hS7 := Upc.out _ _ hS hb7
      clear hS
      have hS := hS7
      clear hS7 hb7
      refine hK (fun W => Below wc.heap.size wc W) _ _ (fun W h => h) hS ?_
      clear hK K
      try simp only [Act.put, List.setIfInBounds_toArray, List.set_cons_zero, List.set_cons_succ]
      repeat (first
        | (refine wpS_take (v := ?_) rfl rfl (by rfl) ?_ ?_; rotate_left; (intro W hW; have hf := Fc.out W hW; go_split_ands; go_simp; try with_reducible rfl); try simp only [Act.put, List.setIfInBounds_toArray, List.set_cons_zero, List.set_cons_succ])
        | (refine wpS_skip rfl rfl (by rfl) ?_; try simp only [Act.put, List.setIfInBounds_toArray, List.set_cons_zero, List.set_cons_succ]))
      refine wpS_pass rfl rfl (by rfl) ?_
      try simp only [Act.put, List.setIfInBounds_toArray, List.set_cons_zero, List.set_cons_succ]
      repeat (first
        | (refine wpS_take (v := ?_) rfl rfl (by rfl) ?_ ?_; rotate_left; (intro W hW; have hf := Fc.out W hW; go_split_ands; go_simp; try with_reducible rfl); try simp only [Act.put, List.setIfInBounds_toArray, List.set_cons_zero, List.set_cons_succ])
        | (refine wpS_skip rfl rfl (by rfl) ?_; try simp only [Act.put, List.setIfInBounds_toArray, List.set_cons_zero, List.set_cons_succ]))
      refine wpS_pass rfl rfl (by rfl) ?_
      try simp only [Act.put, List.setIfInBounds_toArray, List.set_cons_zero, List.set_cons_succ]
      repeat (first
        | (refine wpS_take (v := ?_) rfl rfl (by rfl) ?_ ?_; rotate_left; (intro W hW; have hf := Fc.out W hW; go_split_ands; go_simp; try with_reducible rfl); try simp only [Act.put, List.setIfInBounds_toArray, List.set_cons_zero, List.set_cons_succ])
        | (refine wpS_skip rfl rfl (by rfl) ?_; try simp only [Act.put, List.setIfInBounds_toArray, List.set_cons_zero, List.set_cons_succ]))
      refine wpS_last rfl (by rfl) (fun K hK => ?_)
      go_simp
      refine hK _ _ ?_
      clear hK K
      try simp only [Act.put, List.setIfInBounds_toArray, List.set_cons_zero, List.set_cons_succ]
      refine wpS_nil ?_
      go_wp2_with fail
      go_ret
      have k9 := Kc.out _ hS
      exact ⟨rfl, Hb0.out.trans (k9.mono Hb0.out.size)⟩
    · have hn0 : n' = 0 := by have := (Rc.out _ kc).1.1; simp [flat] at this; omega
      subst hn0
      have hzz := Hz.out (by trivial)
      go_upto_region 5 with (fail)
      have ho : Below wc.heap.size wc wc.drew := (Below.refl _ _).drew
      refine wp_region_S 23 (fun W => Below wc.heap.size wc W) (.take 0 (.take 1 (.take 3 (.one 2 (.one 4 (.take 5 (.take 6 (.one 7 (.take 8 (.take 9 (.take 10 (.one 11 (.take 12 (.take 13 (.take 14 (.take 15 (.take 16 (.take 17 (.take 18 (.take 19 (.one 20 (.take 21 (.take 22 (.one 23 (.nil))))))))))))))))))))))))) (by kernel_rfl) ho (fun _ _ _ _ h => h) (fun hS => ?_)
      repeat (first
        | (refine wpS_take (v := ?_) rfl rfl (by rfl) ?_ ?_; rotate_left; (intro W hW; have hf := Fc.out W hW; go_split_ands; go_simp; try with_reducible rfl); try simp only [Act.put, List.setIfInBounds_toArray, List.set_cons_zero, List.set_cons_succ])
        | (refine wpS_skip rfl rfl (by rfl) ?_; try simp only [Act.put, List.setIfInBounds_toArray, List.set_cons_zero, List.set_cons_succ]))
      refine wpS_one rfl (by rfl) (fun K hK => ?_)
      go_simp
      go_at_call 17
      refine (sameLog_no 0 0 A' 0 c' b t A n c _ hzz).mono ?_
      rintro e v5 ⟨rfl, hb5⟩
      have hS5 := Upc.out _ _ hS hb5
      clear hS
      have hS := hS5
      clear hS5 hb5
      refine hK (fun W => Below wc.heap.size wc W) _ _ (fun W h => h) hS ?_
      clear hK K
      try simp only [Act.put, List.setIfInBounds_toArray, List.set_cons_zero, List.set_cons_succ]
      repeat (first
        | (refine wpS_take (v := ?_) rfl rfl (by rfl) ?_ ?_; rotate_left; (intro W hW; have hf := Fc.out W hW; go_split_ands; go_simp; try with_reducible rfl); try simp only [Act.put, List.setIfInBounds_toArray, List.set_cons_zero, List.set_cons_succ])
        | (refine wpS_skip rfl rfl (by rfl) ?_; try simp only [Act.put, List.setIfInBounds_toArray, List.set_cons_zero, List.set_cons_succ]))
      refine wpS_one rfl (by rfl) (fun K hK => ?_)
      go_simp
      go_at_call 18
      refine (HmayR.out _ (Kc.out _ hS)).mono ?_
      rintro e v6 ⟨rfl, hb6⟩
      have hS6 := Upc.out _ _ hS hb6
      clear hS
      have hS := hS6
      clear hS6 hb6
      refine hK (fun W => Below wc.heap.size wc W) _ _ (fun W h => h) hS ?_
      clear hK K
      try simp only [Act.put, List.setIfInBounds_toArray, List.set_cons_zero, List.set_cons_succ]
      repeat (first
        | (refine wpS_take (v := ?_) rfl rfl (by rfl) ?_ ?_; rotate_left; (intro W hW; have hf := Fc.out W hW; go_split_ands; go_simp; try with_reducible rfl); try simp only [Act.put, List.setIfInBounds_toArray, List.set_cons_zero, List.set_cons_succ])
        | (refine wpS_skip rfl rfl (by rfl) ?_; try simp only [Act.put, List.setIfInBounds_toArray, List.set_cons_zero, List.set_cons_succ]))
      refine wpS_one rfl (by rfl) (fun K hK => ?_)
      go_simp
      go_at_call 9
      refine (sure_any _).mono ?_
      rintro e v7 ⟨rfl, hb7⟩
      have hS7 := Upc.out _ _ hS hb7
      clear hS
      have hS := hS7
      clear hS7 hb7
      refine hK (fun W => Below wc.heap.size wc W) _ _ (fun W h => h) hS ?_
      clear hK K
      try simp only [Act.put, List.setIfInBounds_toArray, List.set_cons_zero, List.set_cons_succ]
      repeat (first
        | (refine wpS_take (v := ?_) rfl rfl (by rfl) ?_ ?_; rotate_left; (intro W hW; have hf := Fc.out W hW; go_split_ands; go_simp; try with_reducible rfl); try simp only [Act.put, List.setIfInBounds_toArray, List.set_cons_zero, List.set_cons_succ])
        | (refine wpS_skip rfl rfl (by rfl) ?_; try simp only [Act.put, List.setIfInBounds_toArray, List.set_cons_zero, List.set_cons_succ]))
      refine wpS_pass rfl rfl (by rfl) ?_
      try simp only [Act.put, List.setIfInBounds_toArray, List.set_cons_zero, List.set_cons_succ]
      repeat (first
        | (refine wpS_take (v := ?_) rfl rfl (by rfl) ?_ ?_; rotate_left; (intro W hW; have hf := Fc.out W hW; go_split_ands; go_simp; try with_reducible rfl); try simp only [Act.put, List.setIfInBounds_toArray, List.set_cons_zero, List.set_cons_succ])
        | (refine wpS_skip rfl rfl (by rfl) ?_; try simp only [Act.put, List.setIfInBounds_toArray, List.set_cons_zero, List.set_cons_succ]))
      refine wpS_pass rfl rfl (by rfl) ?_
      try simp only [Act.put, List.setIfInBounds_toArray, List.set_cons_zero, List.set_cons_succ]
      repeat (first
        | (refine wpS_take (v := ?_) rfl rfl (by rfl) ?_ ?_; rotate_left; (intro W hW; have hf := Fc.out W hW; go_split_ands; go_simp; try with_reducible rfl); try simp only [Act.put, List.setIfInBounds_toArray, List.set_cons_zero, List.set_cons_succ])
        | (refine wpS_skip rfl rfl (by rfl) ?_; try simp only [Act.put, List.setIfInBounds_toArray, List.set_cons_zero, List.set_cons_succ]))
      refine wpS_last rfl (by rfl) (fun K hK => ?_)
      go_simp
      refine hK _ _ ?_
      clear hK K
      try simp only [Act.put, List.setIfInBounds_toArray, List.set_cons_zero, List.set_cons_succ]
      refine wpS_nil ?_
      go_wp2_with fail
      go_ret
      have k9 := Kc.out _ hS
      exact ⟨rfl, Hb0.out.trans (k9.mono Hb0.out.size)⟩
end Go.Proofs.YtefjejlpbfbpcaaDoor
