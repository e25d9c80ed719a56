/- Walks: read.Queue.part at the closures of Take and Fail; Take, Fail. (Printed by mkpart.py.) -/
import Derived.Test.YtodjjcnidgmkmaaDoorGive
namespace Go.Proofs.YtodjjcnidgmkmaaDoor
open Go.RowKit
set_option linter.unusedVariables false
set_option linter.unusedSimpArgs false
theorem int_elem : Elem Tryd.prog 3 (.int .i64 0) 1 8 := by unfold Elem; kernel_rfl
theorem ii_one (l : List Int) : ∀ u ∈ ii l, u.oneCell' = true := by
  intro u hu
  obtain ⟨z, _, rfl⟩ := List.mem_map.1 hu
  rfl
theorem isTake_any (t h a : Int) (x : It) (w : World) (b1 b2 b3 : Nat) (c1 : w.cell? ⟨b1, 0, none⟩ = some (.int .i64 t)) (c2 : w.cell? ⟨b2, 0, none⟩ = some (.int .i64 h)) (c3 : w.cell? ⟨b3, 0, none⟩ = some (.int .i64 a)) :
    Calls Tryd.prog 25 #[itA x, .pointer (some ⟨b1, 0, none⟩), .pointer (some ⟨b2, 0, none⟩), .pointer (some ⟨b3, 0, none⟩)] w (BoolPost w (isTake t h a x)) := by
  have e : ∀ q1 q2 q3 : Bool, (x.t == t) = q1 → decide (x.r ≤ h) = q2 → decide (x.i ≤ a) = q3 → isTake t h a x = (q1 && q2 && q3) := by
    intro q1 q2 q3 h1 h2 h3
    rw [isTake, h1, h2, h3]
  have l1 := World.block_lt_of_cell? w _ c1
  have l2 := World.block_lt_of_cell? w _ c2
  have l3 := World.block_lt_of_cell? w _ c3
  have d1 : ∀ o, (w.alloc o).cell? ⟨b1, 0, none⟩ = some (.int .i64 t) := fun o => (World.cell?_alloc_lt _ _ ⟨b1, 0, none⟩ l1).trans c1
  have d2 : ∀ o, (w.alloc o).cell? ⟨b2, 0, none⟩ = some (.int .i64 h) := fun o => (World.cell?_alloc_lt _ _ ⟨b2, 0, none⟩ l2).trans c2
  have d3 : ∀ o, (w.alloc o).cell? ⟨b3, 0, none⟩ = some (.int .i64 a) := fun o => (World.cell?_alloc_lt _ _ ⟨b3, 0, none⟩ l3).trans c3
  obtain ⟨xt, xr, xi, xk⟩ := x
  unfold itA
  dsimp only at *
  rcases Bool.eq_false_or_eq_true (xt == t) with h1 | h1
  · by_cases h2 : xr ≤ h
    · by_cases h3 : xi ≤ a
      · have e1 := e _ _ _ h1 (decide_eq_true h2) (decide_eq_true h3)
        have E := Lib.hid e1
        clear e e1 c1 c2 c3
        go_enter Tryd.func25, Tryd.ntmps25
        go_wp2_with fail
        go_ret
        exact ⟨ret_bool (by rw [E.out]; rfl), (Below.refl _ _).alloc (Nat.le_refl _) _⟩
      · have e1 := e _ _ _ h1 (decide_eq_true h2) (decide_eq_false h3)
        have E := Lib.hid e1
        clear e e1 c1 c2 c3
        go_enter Tryd.func25, Tryd.ntmps25
        go_wp2_with fail
        go_ret
        exact ⟨ret_bool (by rw [E.out]; rfl), (Below.refl _ _).alloc (Nat.le_refl _) _⟩
    · have e1 := e _ _ _ h1 (decide_eq_false h2) rfl
      have E := Lib.hid e1
      clear e e1 c1 c2 c3
      go_enter Tryd.func25, Tryd.ntmps25
      go_wp2_with fail
      go_ret
      exact ⟨ret_bool (by rw [E.out]; rfl), (Below.refl _ _).alloc (Nat.le_refl _) _⟩
  · have e1 := e _ _ _ h1 rfl rfl
    have E := Lib.hid e1
    clear e e1 c1 c2 c3
    go_enter Tryd.func25, Tryd.ntmps25
    go_wp2_with fail
    go_ret
    exact ⟨ret_bool (by rw [E.out]; rfl), (Below.refl _ _).alloc (Nat.le_refl _) _⟩
theorem isFail_any (t : Int) (x : It) (w : World) (b1 : Nat) (c1 : w.cell? ⟨b1, 0, none⟩ = some (.int .i64 t)) :
    Calls Tryd.prog 26 #[itA x, .pointer (some ⟨b1, 0, none⟩)] w (BoolPost w (isFail t x)) := by
  have l1 := World.block_lt_of_cell? w _ c1
  have d1 : ∀ o, (w.alloc o).cell? ⟨b1, 0, none⟩ = some (.int .i64 t) := fun o => (World.cell?_alloc_lt _ _ ⟨b1, 0, none⟩ l1).trans c1
  obtain ⟨xt, xr, xi, xk⟩ := x
  unfold itA
  dsimp only at *
  clear c1
  go_enter Tryd.func26, Tryd.ntmps26
  go_wp2_with fail
  go_ret
  exact ⟨rfl, (Below.refl _ _).alloc (Nat.le_refl _) _⟩
/-- A queue and numbers handed back. -/
def PartPost (W : World) (lim : Int) (l : List It) (zs : List Int) (e : Ending) (w' : World) : Prop :=
  ∃ A n c B m d, e = .returned (.tuple #[quA lim A n c, .slice B m d]) ∧ Rd w' (W.heap.size ≤ ·) 4 A n (flat itc l) ∧ Rd w' (W.heap.size ≤ ·) 1 B m (ii zs) ∧ Below W.heap.size W w'
structure PInv (w : World) (R : Nat) (lim : Int) (A : Option Addr) (n c : Nat) (lf : List It) (out : List Int) (A1 : Option Addr) (c1 : Nat) (A2 : Option Addr) (c2 : Nat) (wr : World) : Prop where
  own1 : wr.ownsRow (R + 1) 36 4 (.slice A1 lf.length c1) lf.length (flat itc lf)
  own2 : wr.ownsRow (R + 1) 3 1 (.slice A2 out.length c2) out.length (ii out)
  b0 : Bx wr w.heap.size #[.int .i64 lim, .slice A n c]
  b1 : Bx wr (w.heap.size + 1) #[.int .i64 0, .slice none 0 0]
  b2 : Bx wr R #[.int .i64 lim, .slice A1 lf.length c1]
  be : Below w.heap.size w wr
  hR : w.heap.size + 2 ≤ R
  ap : ∀ g, A1.map (·.block) = some g → A2.map (·.block) ≠ some g
theorem PInv.alloc {w : World} {R : Nat} {lim : Int} {A : Option Addr} {n c : Nat} {lf : List It} {out : List Int} {A1 A2 : Option Addr} {c1 c2 : Nat} {wr : World} (h : PInv w R lim A n c lf out A1 c1 A2 c2 wr) (o : Obj) : PInv w R lim A n c lf out A1 c1 A2 c2 (wr.alloc o) :=
  ⟨h.own1.alloc o, h.own2.alloc o, h.b0.alloc o, h.b1.alloc o, h.b2.alloc o, h.be.alloc h.be.size o, h.hR, h.ap⟩
theorem PInv.below {w : World} {R : Nat} {lim : Int} {A : Option Addr} {n c : Nat} {lf : List It} {out : List Int} {A1 A2 : Option Addr} {c1 c2 : Nat} {wr w1 : World} (h : PInv w R lim A n c lf out A1 c1 A2 c2 wr) (hb : Below wr.heap.size wr w1) : PInv w R lim A n c lf out A1 c1 A2 c2 w1 :=
  ⟨own_below h.own1 hb, own_below h.own2 hb, h.b0.below hb, h.b1.below hb, h.b2.below hb, h.be.trans (hb.mono h.be.size), h.hR, h.ap⟩
theorem own_far {w : World} {B e size n c : Nat} {A : Option Addr} {xs : List Value} (h : w.ownsRow B e size (.slice A n c) n xs) {b i : Nat} (hb : b < B) (u : Value) : (w.setCell ⟨b, i, none⟩ u).ownsRow B e size (.slice A n c) n xs := by
  refine h.kept (row := some b) ⟨rfl, rfl, rfl, by simp [World.setCell], fun k _ hk => Below.heap_setCell _ _ _ k (fun e => hk (by rw [e]))⟩ ?_
  rcases A with _ | a
  · exact .inl rfl
  · right
    intro e
    have := (own_lt h a.block rfl).1
    have e' : some a.block = some b := e
    injection e' with e'
    omega
theorem own_keep {w w' : World} {B e size n c : Nat} {A A' : Option Addr} {xs : List Value} (h : w.ownsRow B e size (.slice A n c) n xs) (hg : w.grownBy w' (A'.map (·.block))) (hne : ∀ g, A'.map (·.block) = some g → A.map (·.block) ≠ some g) : w'.ownsRow B e size (.slice A n c) n xs := by
  refine h.kept hg ?_
  rcases A with _ | a
  · exact .inl rfl
  · right
    intro e
    exact hne _ e.symm rfl
/-- One number more comes out. -/
theorem PInv.put_out {w : World} {R : Nat} {lim : Int} {A : Option Addr} {n c : Nat} {lf : List It} {out : List Int} {A1 A2 A3 : Option Addr} {c1 c2 c3 m : Nat} {wr w1 : World} {z : Int} (h : PInv w R lim A n c lf out A1 c1 A2 c2 wr)
    (hm : m = out.length + 1) (hown : w1.ownsRow (R + 1) 3 1 (.slice A3 m c3) m (ii out ++ ii [z])) (hg : wr.grownBy w1 (A2.map (·.block))) (hat : A3.map (·.block) = A2.map (·.block) ∨ A3.map (·.block) = some wr.heap.size) :
    PInv w R lim A n c lf (out ++ [z]) A1 c1 A3 c3 w1 := by
  have hrow : ∀ g, A2.map (·.block) = some g → R + 1 ≤ g := fun g hg => (own_lt h.own2 g hg).1
  have hne : ∀ b, b ≤ R → A2.map (·.block) ≠ some b := fun b hb e => by have := hrow b e; omega
  have hR := h.hR
  have hlt := h.b2.lt
  refine ⟨own_keep h.own1 hg (fun g hg' e => h.ap g e hg'), ?_, h.b0.grown hg (hne _ (by omega)), h.b1.grown hg (hne _ (by omega)), h.b2.grown hg (hne _ (by omega)), h.be.grown hg h.be.size (fun g hg' => by have := hrow g hg'; omega), h.hR, ?_⟩
  · have e : ii (out ++ [z]) = ii out ++ ii [z] := by simp [ii]
    rw [e, List.length_append, List.length_singleton, ← hm]
    exact hown
  · intro g hg1 hg3
    rcases hat with e | e
    · exact h.ap g hg1 (e ▸ hg3)
    · have := (own_lt h.own1 g hg1).2
      rw [e] at hg3
      injection hg3 with hg3
      omega
/-- One item more is left. -/
theorem PInv.put_left {w : World} {R : Nat} {lim : Int} {A : Option Addr} {n c : Nat} {lf : List It} {out : List Int} {A1 A2 A3 : Option Addr} {c1 c2 c3 m : Nat} {wr w1 : World} {x : It} (h : PInv w R lim A n c lf out A1 c1 A2 c2 wr)
    (hm : m = lf.length + 1) (hown : w1.ownsRow (R + 1) 36 4 (.slice A3 m c3) m (flat itc lf ++ flat itc [x])) (hg : wr.grownBy w1 (A1.map (·.block))) (hat : A3.map (·.block) = A1.map (·.block) ∨ A3.map (·.block) = some wr.heap.size) :
    PInv w R lim A n c (lf ++ [x]) out A3 c3 A2 c2 (w1.setCell ⟨R, 1, none⟩ (.slice A3 m c3)) := by
  have hrow : ∀ g, A1.map (·.block) = some g → R + 1 ≤ g := fun g hg => (own_lt h.own1 g hg).1
  have hne : ∀ b, b ≤ R → A1.map (·.block) ≠ some b := fun b hb e => by have := hrow b e; omega
  have hR := h.hR
  have hlt := h.b2.lt
  have el : (lf ++ [x]).length = m := by rw [List.length_append, List.length_singleton, hm]
  refine ⟨?_, own_far (own_keep h.own2 hg (fun g hg' e => h.ap g hg' e)) (by omega) _, (h.b0.grown hg (hne _ (by omega))).far (by show w.heap.size ≠ R; omega) _, (h.b1.grown hg (hne _ (by omega))).far (by show w.heap.size + 1 ≠ R; omega) _, ?_, (h.be.grown hg h.be.size (fun g hg' => by have := hrow g hg'; omega)).setCell (by show w.heap.size ≤ R; omega) _, h.hR, ?_⟩
  · rw [el, flat_append]
    exact own_far hown (by omega) _
  · rw [el]
    exact (h.b2.grown hg (hne _ (by omega))).set 1 _
  · intro g hg1 hg3
    rcases hat with e | e
    · exact h.ap g (e ▸ hg1) hg3
    · have := (own_lt h.own2 g hg3).2
      rw [e] at hg1
      injection hg1 with hg1
      omega

set_option maxHeartbeats 1600000 in
theorem partTake_any (t h a : Int) (b1 b2 b3 : Nat) (lim : Int) (A : Option Addr) (n c : Nat) (l : List It) (w : World) {ok : Nat → Prop} (hr : Rd w ok 4 A n (flat itc l)) (hn : n ≤ 1000000)
    (his : ∀ x W, Below w.heap.size w W → Calls Tryd.prog 25 #[itA x, .pointer (some ⟨b1, 0, none⟩), .pointer (some ⟨b2, 0, none⟩), .pointer (some ⟨b3, 0, none⟩)] W (BoolPost W (isTake t h a x))) (hm : quMay lim l = true) :
    Calls Tryd.prog 24 #[quA lim A n c, .func (.func 25) #[] #[.pointer (some ⟨b1, 0, none⟩), .pointer (some ⟨b2, 0, none⟩), .pointer (some ⟨b3, 0, none⟩)]] w (PartPost w lim (leftOf (isTake t h a) l) (outOf (isTake t h a) l)) := by
  have hl := hr.flen itc_len (by omega)
  have Hl := Lib.hid hl
  have His := Lib.hid his
  have hq := quMay_any lim A n c l _ ((hr.alloc (.cells #[.int .i64 lim, .slice A n c] 30)).alloc (.cells #[.int .i64 0, .slice none 0 0] 30)) hn
  rw [hm] at hq
  have Hq := Lib.hid hq
  clear hl his hm hq
  unfold quA at *
  have Hr := Lib.hid hr
  have hb0 : Bx ((w.alloc (.cells #[.int .i64 lim, .slice A n c] 30)).alloc (.cells #[.int .i64 0, .slice none 0 0] 30)) w.heap.size #[.int .i64 lim, .slice A n c] := (Bx.new w _ _ rfl).alloc _
  have hb1 : Bx ((w.alloc (.cells #[.int .i64 lim, .slice A n c] 30)).alloc (.cells #[.int .i64 0, .slice none 0 0] 30)) (w.heap.size + 1) #[.int .i64 0, .slice none 0 0] := Bx.new _ _ _ (by simp)
  go_enter Tryd.func24, Tryd.ntmps24
  go_wp2_with fail
  refine Hq.out.mono ?_
  rintro e w1 ⟨rfl, hb⟩
  replace hb0 := hb0.below hb
  replace hb1 := hb1.below hb
  have hbe : Below w.heap.size w w1 := (((Below.refl _ _).alloc (Nat.le_refl _) _).alloc (by simp) _).trans (hb.mono (by simp; omega))
  have hz := hb.size
  simp only [World.size_alloc] at hz
  clear hb
  have k0 : w1.cell? ⟨w.heap.size, 0, none⟩ = some (.int .i64 lim) := hb0.c 0
  have k1 : w1.cell? ⟨w.heap.size, 1, none⟩ = some (.slice A n c) := hb0.c 1
  have k2 : ∀ ob, (w1.alloc ob).cell? ⟨w.heap.size, 1, none⟩ = some (.slice A n c) := fun ob => (hb0.alloc ob).c 1
  have hinv : PInv w w1.heap.size lim A n c (leftOf (isTake t h a) (l.take 0)) (outOf (isTake t h a) (l.take 0)) none 0 none 0 (w1.alloc (.cells #[.int .i64 lim, .slice none 0 0] 30)) :=
    ⟨own_nil _ _ _ _ _ rfl, own_nil _ _ _ _ _ rfl, hb0.alloc _, hb1.alloc _, Bx.new _ _ _ rfl, hbe.alloc hbe.size _, by omega, by simp⟩
  have Hinv := Lib.hid hinv
  clear hinv hb0 hb1
  go_wp2_with fail
  clear k0 k1 k2
  generalize w1.heap.size = R at Hinv hz
  go_loopg [7, 9, 20] n (fun m s7 s9 s20 wr => ∃ j A1 c1 A2 c2, m = n - j ∧ j ≤ n ∧ s20 = .int .i64 (j : Nat) ∧ s7 = .slice A2 (outOf (isTake t h a) (l.take j)).length c2 ∧ PInv w R lim A n c (leftOf (isTake t h a) (l.take j)) (outOf (isTake t h a) (l.take j)) A1 c1 A2 c2 wr)
  case atStart => exact ⟨0, none, 0, none, 0, by omega, by omega, rfl, rfl, Hinv.out⟩
  case round =>
    obtain ⟨j, A1, c1, A2, c2, hm, hj, rfl, rfl, hi⟩ := hrel
    clear Hinv
    have Hm := Lib.hid hm
    clear hm
    have hR := hi.hR
    have hlen := left_out_length (isTake t h a) (l.take j)
    have hlj : (l.take j).length = j := by rw [List.length_take, Hl.out]; omega
    rw [hlj] at hlen
    have Hlen := Lib.hid hlen
    have hlo : (outOf (isTake t h a) (l.take j)).length ≤ j := by omega
    have hll : (leftOf (isTake t h a) (l.take j)).length ≤ j := by omega
    clear hlen hlj
    by_cases hlt : j < n
    · obtain ⟨b, o, x, hA, _, hbl, hx, hd0, hd1, hd2, hd3⟩ := it_cells (Hr.out.below hi.be) hlt
      have hs : l.take (j + 1) = l.take j ++ [x] := by rw [List.take_add_one, hx]; rfl
      have hlS : leftOf (isTake t h a) (l.take (j + 1)) = leftOf (isTake t h a) (l.take j) ++ (if isTake t h a x then [] else [x]) := by rw [hs]; unfold leftOf; rw [List.filter_append]; cases hpx : isTake t h a x <;> simp [hpx]
      have hoS : outOf (isTake t h a) (l.take (j + 1)) = outOf (isTake t h a) (l.take j) ++ (if isTake t h a x then [x.k] else []) := by rw [hs]; unfold outOf; rw [List.filter_append, List.map_append]; cases hpx : isTake t h a x <;> simp [hpx]
      have hjn : (j : Int) < n := by omega
      have h0j : (0 : Int) ≤ j := by omega
      have hc := fun W hb => His.out x W hb
      generalize hlf : leftOf (isTake t h a) (l.take j) = lf at hi hlS hll
      generalize hout : outOf (isTake t h a) (l.take j) = out at hi hoS hlo
      generalize hpx : isTake t h a x = px at hc hlS hoS
      have HlS := Lib.hid hlS
      have HoS := Lib.hid hoS
      have Hc := Lib.hid hc
      have Hi := Lib.hid hi
      have k1 := hi.b0.lt
      have z1 := hi.be.size
      subst hA
      clear hs hlS hoS hc hx hpx hlf hout hi
      unfold itA at Hc
      go_wp2_with fail
      refine (Hc.out _ ?_).mono ?_
      · exact Hi.out.be.alloc z1 _
      rintro e w2 ⟨rfl, hb2⟩
      have hi2 := (Hi.out.alloc _).below hb2
      have hx2 : Bx w2 wr.heap.size #[.int .i64 x.t, .int .i64 x.r, .int .i64 x.i, .int .i64 x.k] := (Bx.new wr _ _ rfl).below hb2
      have q0 := hx2.c 0
      have q1 := hx2.c 1
      have q2 := hx2.c 2
      have q3 := hx2.c 3
      simp at q0 q1 q2 q3
      have zR : R < w2.heap.size := hi2.b2.lt
      cases px
      · have p1 : w2.cell? ⟨R, 1, none⟩ = some (.slice A1 lf.length c1) := hi2.b2.c 1
        have hnews : Rd (w2.alloc (.cells #[.int .i64 x.t, .int .i64 x.r, .int .i64 x.i, .int .i64 x.k] 36)) T 4 (some ⟨w2.heap.size, 0, none⟩) 1 (flat itc [x]) := (Rd.blit rfl).any
        have Hnews := Lib.hid hnews
        have h1 := itc_one [x]
        have H1 := Lib.hid h1
        have Hi2 := Lib.hid hi2
        clear hnews h1 hi2 Hi hx2 hb2
        go_wp2_with (at_builtin; go_must (refine wpList_append_any _ Tryd.underlying28 it_elem rfl (by omega) rfl rfl rfl (Hi2.out.own1.alloc _) rfl Hnews.out H1.out (by omega) (by simp; omega) rfl rfl ?_); intro A3 c3 w3 hown3 hg3 hat3; have hb3 := (Hi2.out.b2.alloc _).grown hg3 (fun e => by have := (own_lt Hi2.out.own1 _ e).1; omega); have m1 := hb3.c 1; have m2 := hb3.f 1)
        have hnext := (Hi2.out.alloc _).put_left rfl hown3 hg3 hat3
        have Hnext := Lib.hid hnext
        clear hnext m1 m2 hb3
        go_wp2_with fail
        go_roundg (n - (j + 1))
        case measure => have := Hm.out; omega
        case rel =>
          refine ⟨j + 1, A3, c3, A2, c2, rfl, by omega, by go_num, ?_, ?_⟩
          · rw [HoS.out]; simp
          · rw [HlS.out, HoS.out]
            simpa using Hnext.out
      · have hnews : Rd (w2.alloc (.cells #[.int .i64 x.k] 3)) T 1 (some ⟨w2.heap.size, 0, none⟩) 1 (ii [x.k]) := (Rd.lit rfl).any
        have Hnews := Lib.hid hnews
        have h1 := ii_one [x.k]
        have H1 := Lib.hid h1
        have Hi2 := Lib.hid hi2
        clear hnews h1 hi2 Hi hx2 hb2
        go_wp2_with (at_builtin; go_must (refine wpList_append_any _ Tryd.underlying43 int_elem rfl (by omega) rfl rfl rfl (Hi2.out.own2.alloc _) rfl Hnews.out H1.out (by omega) (by simp; omega) rfl rfl ?_); intro A3 c3 w3 hown3 hg3 hat3)
        have hnext := (Hi2.out.alloc _).put_out rfl hown3 hg3 hat3
        have Hnext := Lib.hid hnext
        clear hnext
        go_roundg (n - (j + 1))
        case measure => have := Hm.out; omega
        case rel =>
          refine ⟨j + 1, A1, c1, A3, c3, rfl, by omega, by go_num, ?_, ?_⟩
          · rw [HoS.out]; simp
          · rw [HlS.out, HoS.out]
            simpa using Hnext.out
    · obtain rfl : j = n := by omega
      rw [List.take_of_length_le (Nat.le_of_eq Hl.out)] at *
      have k0 : wr.cell? ⟨R, 0, none⟩ = some (.int .i64 lim) := hi.b2.c 0
      have k1 : wr.cell? ⟨R, 1, none⟩ = some (.slice A1 (leftOf (isTake t h a) l).length c1) := hi.b2.c 1
      have k5 : wr.cell? ⟨w.heap.size + 1, 0, none⟩ = some (.int .i64 0) := hi.b1.c 0
      have k6 : wr.cell? ⟨w.heap.size + 1, 1, none⟩ = some (.slice none 0 0) := hi.b1.c 1
      have k7 : wr.frozen? ⟨w.heap.size + 1, 0, none⟩ = false := hi.b1.f 0
      have k8 : wr.frozen? ⟨w.heap.size + 1, 1, none⟩ = false := hi.b1.f 1
      have Hi := Lib.hid hi
      clear hi
      go_wp2_with fail
      refine bodyPost_ret (by simp [results, Tryd.results24, go_sem, k5, k6]; rfl) rfl ?_
      refine ⟨A1, _, c1, A2, _, c2, rfl, ?_, ?_, (Hi.out.be.setCell (by show w.heap.size ≤ w.heap.size + 1; omega) _).setCell (by show w.heap.size ≤ w.heap.size + 1; omega) _⟩
      · exact (((Rd.of_own Hi.out.own1).setCell (by show ¬ R + 1 ≤ w.heap.size + 1; omega) _).setCell (by show ¬ R + 1 ≤ w.heap.size + 1; omega) _).mono (fun b hb => by omega)
      · exact (((Rd.of_own Hi.out.own2).setCell (by show ¬ R + 1 ≤ w.heap.size + 1; omega) _).setCell (by show ¬ R + 1 ≤ w.heap.size + 1; omega) _).mono (fun b hb => by omega)

set_option maxHeartbeats 1600000 in
theorem partFail_any (t : Int) (b1 : Nat) (lim : Int) (A : Option Addr) (n c : Nat) (l : List It) (w : World) {ok : Nat → Prop} (hr : Rd w ok 4 A n (flat itc l)) (hn : n ≤ 1000000)
    (his : ∀ x W, Below w.heap.size w W → Calls Tryd.prog 26 #[itA x, .pointer (some ⟨b1, 0, none⟩)] W (BoolPost W (isFail t x))) (hm : quMay lim l = true) :
    Calls Tryd.prog 24 #[quA lim A n c, .func (.func 26) #[] #[.pointer (some ⟨b1, 0, none⟩)]] w (PartPost w lim (leftOf (isFail t) l) (outOf (isFail t) l)) := by
  have hl := hr.flen itc_len (by omega)
  have Hl := Lib.hid hl
  have His := Lib.hid his
  have hq := quMay_any lim A n c l _ ((hr.alloc (.cells #[.int .i64 lim, .slice A n c] 30)).alloc (.cells #[.int .i64 0, .slice none 0 0] 30)) hn
  rw [hm] at hq
  have Hq := Lib.hid hq
  clear hl his hm hq
  unfold quA at *
  have Hr := Lib.hid hr
  have hb0 : Bx ((w.alloc (.cells #[.int .i64 lim, .slice A n c] 30)).alloc (.cells #[.int .i64 0, .slice none 0 0] 30)) w.heap.size #[.int .i64 lim, .slice A n c] := (Bx.new w _ _ rfl).alloc _
  have hb1 : Bx ((w.alloc (.cells #[.int .i64 lim, .slice A n c] 30)).alloc (.cells #[.int .i64 0, .slice none 0 0] 30)) (w.heap.size + 1) #[.int .i64 0, .slice none 0 0] := Bx.new _ _ _ (by simp)
  go_enter Tryd.func24, Tryd.ntmps24
  go_wp2_with fail
  refine Hq.out.mono ?_
  rintro e w1 ⟨rfl, hb⟩
  replace hb0 := hb0.below hb
  replace hb1 := hb1.below hb
  have hbe : Below w.heap.size w w1 := (((Below.refl _ _).alloc (Nat.le_refl _) _).alloc (by simp) _).trans (hb.mono (by simp; omega))
  have hz := hb.size
  simp only [World.size_alloc] at hz
  clear hb
  have k0 : w1.cell? ⟨w.heap.size, 0, none⟩ = some (.int .i64 lim) := hb0.c 0
  have k1 : w1.cell? ⟨w.heap.size, 1, none⟩ = some (.slice A n c) := hb0.c 1
  have k2 : ∀ ob, (w1.alloc ob).cell? ⟨w.heap.size, 1, none⟩ = some (.slice A n c) := fun ob => (hb0.alloc ob).c 1
  have hinv : PInv w w1.heap.size lim A n c (leftOf (isFail t) (l.take 0)) (outOf (isFail t) (l.take 0)) none 0 none 0 (w1.alloc (.cells #[.int .i64 lim, .slice none 0 0] 30)) :=
    ⟨own_nil _ _ _ _ _ rfl, own_nil _ _ _ _ _ rfl, hb0.alloc _, hb1.alloc _, Bx.new _ _ _ rfl, hbe.alloc hbe.size _, by omega, by simp⟩
  have Hinv := Lib.hid hinv
  clear hinv hb0 hb1
  go_wp2_with fail
  clear k0 k1 k2
  generalize w1.heap.size = R at Hinv hz
  go_loopg [7, 9, 20] n (fun m s7 s9 s20 wr => ∃ j A1 c1 A2 c2, m = n - j ∧ j ≤ n ∧ s20 = .int .i64 (j : Nat) ∧ s7 = .slice A2 (outOf (isFail t) (l.take j)).length c2 ∧ PInv w R lim A n c (leftOf (isFail t) (l.take j)) (outOf (isFail t) (l.take j)) A1 c1 A2 c2 wr)
  case atStart => exact ⟨0, none, 0, none, 0, by omega, by omega, rfl, rfl, Hinv.out⟩
  case round =>
    obtain ⟨j, A1, c1, A2, c2, hm, hj, rfl, rfl, hi⟩ := hrel
    clear Hinv
    have Hm := Lib.hid hm
    clear hm
    have hR := hi.hR
    have hlen := left_out_length (isFail t) (l.take j)
    have hlj : (l.take j).length = j := by rw [List.length_take, Hl.out]; omega
    rw [hlj] at hlen
    have Hlen := Lib.hid hlen
    have hlo : (outOf (isFail t) (l.take j)).length ≤ j := by omega
    have hll : (leftOf (isFail t) (l.take j)).length ≤ j := by omega
    clear hlen hlj
    by_cases hlt : j < n
    · obtain ⟨b, o, x, hA, _, hbl, hx, hd0, hd1, hd2, hd3⟩ := it_cells (Hr.out.below hi.be) hlt
      have hs : l.take (j + 1) = l.take j ++ [x] := by rw [List.take_add_one, hx]; rfl
      have hlS : leftOf (isFail t) (l.take (j + 1)) = leftOf (isFail t) (l.take j) ++ (if isFail t x then [] else [x]) := by rw [hs]; unfold leftOf; rw [List.filter_append]; cases hpx : isFail t x <;> simp [hpx]
      have hoS : outOf (isFail t) (l.take (j + 1)) = outOf (isFail t) (l.take j) ++ (if isFail t x then [x.k] else []) := by rw [hs]; unfold outOf; rw [List.filter_append, List.map_append]; cases hpx : isFail t x <;> simp [hpx]
      have hjn : (j : Int) < n := by omega
      have h0j : (0 : Int) ≤ j := by omega
      have hc := fun W hb => His.out x W hb
      generalize hlf : leftOf (isFail t) (l.take j) = lf at hi hlS hll
      generalize hout : outOf (isFail t) (l.take j) = out at hi hoS hlo
      generalize hpx : isFail t x = px at hc hlS hoS
      have HlS := Lib.hid hlS
      have HoS := Lib.hid hoS
      have Hc := Lib.hid hc
      have Hi := Lib.hid hi
      have k1 := hi.b0.lt
      have z1 := hi.be.size
      subst hA
      clear hs hlS hoS hc hx hpx hlf hout hi
      unfold itA at Hc
      go_wp2_with fail
      refine (Hc.out _ ?_).mono ?_
      · exact Hi.out.be.alloc z1 _
      rintro e w2 ⟨rfl, hb2⟩
      have hi2 := (Hi.out.alloc _).below hb2
      have hx2 : Bx w2 wr.heap.size #[.int .i64 x.t, .int .i64 x.r, .int .i64 x.i, .int .i64 x.k] := (Bx.new wr _ _ rfl).below hb2
      have q0 := hx2.c 0
      have q1 := hx2.c 1
      have q2 := hx2.c 2
      have q3 := hx2.c 3
      simp at q0 q1 q2 q3
      have zR : R < w2.heap.size := hi2.b2.lt
      cases px
      · have p1 : w2.cell? ⟨R, 1, none⟩ = some (.slice A1 lf.length c1) := hi2.b2.c 1
        have hnews : Rd (w2.alloc (.cells #[.int .i64 x.t, .int .i64 x.r, .int .i64 x.i, .int .i64 x.k] 36)) T 4 (some ⟨w2.heap.size, 0, none⟩) 1 (flat itc [x]) := (Rd.blit rfl).any
        have Hnews := Lib.hid hnews
        have h1 := itc_one [x]
        have H1 := Lib.hid h1
        have Hi2 := Lib.hid hi2
        clear hnews h1 hi2 Hi hx2 hb2
        go_wp2_with (at_builtin; go_must (refine wpList_append_any _ Tryd.underlying28 it_elem rfl (by omega) rfl rfl rfl (Hi2.out.own1.alloc _) rfl Hnews.out H1.out (by omega) (by simp; omega) rfl rfl ?_); intro A3 c3 w3 hown3 hg3 hat3; have hb3 := (Hi2.out.b2.alloc _).grown hg3 (fun e => by have := (own_lt Hi2.out.own1 _ e).1; omega); have m1 := hb3.c 1; have m2 := hb3.f 1)
        have hnext := (Hi2.out.alloc _).put_left rfl hown3 hg3 hat3
        have Hnext := Lib.hid hnext
        clear hnext m1 m2 hb3
        go_wp2_with fail
        go_roundg (n - (j + 1))
        case measure => have := Hm.out; omega
        case rel =>
          refine ⟨j + 1, A3, c3, A2, c2, rfl, by omega, by go_num, ?_, ?_⟩
          · rw [HoS.out]; simp
          · rw [HlS.out, HoS.out]
            simpa using Hnext.out
      · have hnews : Rd (w2.alloc (.cells #[.int .i64 x.k] 3)) T 1 (some ⟨w2.heap.size, 0, none⟩) 1 (ii [x.k]) := (Rd.lit rfl).any
        have Hnews := Lib.hid hnews
        have h1 := ii_one [x.k]
        have H1 := Lib.hid h1
        have Hi2 := Lib.hid hi2
        clear hnews h1 hi2 Hi hx2 hb2
        go_wp2_with (at_builtin; go_must (refine wpList_append_any _ Tryd.underlying43 int_elem rfl (by omega) rfl rfl rfl (Hi2.out.own2.alloc _) rfl Hnews.out H1.out (by omega) (by simp; omega) rfl rfl ?_); intro A3 c3 w3 hown3 hg3 hat3)
        have hnext := (Hi2.out.alloc _).put_out rfl hown3 hg3 hat3
        have Hnext := Lib.hid hnext
        clear hnext
        go_roundg (n - (j + 1))
        case measure => have := Hm.out; omega
        case rel =>
          refine ⟨j + 1, A1, c1, A3, c3, rfl, by omega, by go_num, ?_, ?_⟩
          · rw [HoS.out]; simp
          · rw [HlS.out, HoS.out]
            simpa using Hnext.out
    · obtain rfl : j = n := by omega
      rw [List.take_of_length_le (Nat.le_of_eq Hl.out)] at *
      have k0 : wr.cell? ⟨R, 0, none⟩ = some (.int .i64 lim) := hi.b2.c 0
      have k1 : wr.cell? ⟨R, 1, none⟩ = some (.slice A1 (leftOf (isFail t) l).length c1) := hi.b2.c 1
      have k5 : wr.cell? ⟨w.heap.size + 1, 0, none⟩ = some (.int .i64 0) := hi.b1.c 0
      have k6 : wr.cell? ⟨w.heap.size + 1, 1, none⟩ = some (.slice none 0 0) := hi.b1.c 1
      have k7 : wr.frozen? ⟨w.heap.size + 1, 0, none⟩ = false := hi.b1.f 0
      have k8 : wr.frozen? ⟨w.heap.size + 1, 1, none⟩ = false := hi.b1.f 1
      have Hi := Lib.hid hi
      clear hi
      go_wp2_with fail
      refine bodyPost_ret (by simp [results, Tryd.results24, go_sem, k5, k6]; rfl) rfl ?_
      refine ⟨A1, _, c1, A2, _, c2, rfl, ?_, ?_, (Hi.out.be.setCell (by show w.heap.size ≤ w.heap.size + 1; omega) _).setCell (by show w.heap.size ≤ w.heap.size + 1; omega) _⟩
      · exact (((Rd.of_own Hi.out.own1).setCell (by show ¬ R + 1 ≤ w.heap.size + 1; omega) _).setCell (by show ¬ R + 1 ≤ w.heap.size + 1; omega) _).mono (fun b hb => by omega)
      · exact (((Rd.of_own Hi.out.own2).setCell (by show ¬ R + 1 ≤ w.heap.size + 1; omega) _).setCell (by show ¬ R + 1 ≤ w.heap.size + 1; omega) _).mono (fun b hb => by omega)
end Go.Proofs.YtodjjcnidgmkmaaDoor
