/- Walk of the reference's Take. (Printed by mktaker.py.) -/
import Derived.Test.YtodjjcnidgmkmaaDoorPart
import Derived.Test.YtodjjcnidgmkmaaDoorMayR
import Derived.Test.YtodjjcnidgmkmaaDoorAddR
namespace Go.Proofs.YtodjjcnidgmkmaaDoor
open Go.RowKit
set_option linter.unusedVariables false
set_option linter.unusedSimpArgs false
theorem takeR_bad (lim : Int) (A : Option Addr) (n c : Nat) (l : List It) (t h a : Int) (other : Bool) (w : World) {ok : Nat → Prop} (hr : Rd w ok 4 A n (flat itc l)) (hn : n ≤ 1000000) (hm : quMay lim l = false) :
    Calls Tryd.prog 12 #[quA lim A n c, .int .i64 t, .int .i64 h, .int .i64 a, .bool other] w (PartPost w 0 [] []) := by
  have hq := mayR_any lim A n c l _ ((hr.alloc (.cells #[.int .i64 lim, .slice A n c] 24)).alloc (.cells #[.int .i64 0, .slice none 0 0] 24)) hn
  rw [hm] at hq
  have Hq := Lib.hid hq
  clear hm hq
  unfold quA at *
  have hb1 : Bx ((w.alloc (.cells #[.int .i64 lim, .slice A n c] 24)).alloc (.cells #[.int .i64 0, .slice none 0 0] 24)) (w.heap.size + 1) #[.int .i64 0, .slice none 0 0] := Bx.new _ _ _ (by simp)
  go_enter Tryd.func12, Tryd.ntmps12
  go_wp2_with fail
  refine Hq.out.mono ?_
  rintro e w1 ⟨rfl, hb⟩
  replace hb1 := hb1.below hb
  have hbe : Below w.heap.size w w1 := (((Below.refl _ _).alloc (Nat.le_refl _) _).alloc (by simp) _).trans (hb.mono (by simp; omega))
  have k5 : w1.cell? ⟨w.heap.size + 1, 0, none⟩ = some (.int .i64 0) := hb1.c 0
  have k6 : w1.cell? ⟨w.heap.size + 1, 1, none⟩ = some (.slice none 0 0) := hb1.c 1
  have k7 : w1.frozen? ⟨w.heap.size + 1, 0, none⟩ = false := hb1.f 0
  have k8 : w1.frozen? ⟨w.heap.size + 1, 1, none⟩ = false := hb1.f 1
  clear hb hb1
  go_wp2_with fail
  refine bodyPost_ret (by simp [results, Tryd.results12, go_sem, k5, k6]; rfl) rfl ?_
  exact ⟨none, 0, 0, none, 0, 0, rfl, Rd.none_, Rd.none_, (hbe.setCell (by show w.heap.size ≤ w.heap.size + 1; omega) _).setCell (by show w.heap.size ≤ w.heap.size + 1; omega) _⟩
structure PInvR (w : World) (R : Nat) (lim : Int) (A : Option Addr) (n c : Nat) (lf : List It) (out : List Int) (A1 : Option Addr) (c1 : Nat) (A2 : Option Addr) (c2 : Nat) (wr : World) : Prop where
  own1 : wr.ownsRow (R + 1) 26 4 (.slice A1 lf.length c1) lf.length (flat itc lf)
  own2 : wr.ownsRow (R + 1) 3 1 (.slice A2 out.length c2) out.length (ii out)
  b0 : Bx wr w.heap.size #[.int .i64 lim, .slice A n c]
  b1 : Bx wr (w.heap.size + 1) #[.int .i64 0, .slice none 0 0]
  b2 : Bx wr R #[.int .i64 lim, .slice A1 lf.length c1]
  be : Below w.heap.size w wr
  hR : w.heap.size + 2 ≤ R
  ap : ∀ g, A1.map (·.block) = some g → A2.map (·.block) ≠ some g
theorem PInvR.alloc {w : World} {R : Nat} {lim : Int} {A : Option Addr} {n c : Nat} {lf : List It} {out : List Int} {A1 A2 : Option Addr} {c1 c2 : Nat} {wr : World} (h : PInvR w R lim A n c lf out A1 c1 A2 c2 wr) (o : Obj) : PInvR w R lim A n c lf out A1 c1 A2 c2 (wr.alloc o) :=
  ⟨h.own1.alloc o, h.own2.alloc o, h.b0.alloc o, h.b1.alloc o, h.b2.alloc o, h.be.alloc h.be.size o, h.hR, h.ap⟩
theorem PInvR.below {w : World} {R : Nat} {lim : Int} {A : Option Addr} {n c : Nat} {lf : List It} {out : List Int} {A1 A2 : Option Addr} {c1 c2 : Nat} {wr w1 : World} (h : PInvR w R lim A n c lf out A1 c1 A2 c2 wr) (hb : Below wr.heap.size wr w1) : PInvR w R lim A n c lf out A1 c1 A2 c2 w1 :=
  ⟨own_below h.own1 hb, own_below h.own2 hb, h.b0.below hb, h.b1.below hb, h.b2.below hb, h.be.trans (hb.mono h.be.size), h.hR, h.ap⟩
/-- One number more comes out. -/
theorem PInvR.put_out {w : World} {R : Nat} {lim : Int} {A : Option Addr} {n c : Nat} {lf : List It} {out : List Int} {A1 A2 A3 : Option Addr} {c1 c2 c3 m : Nat} {wr w1 : World} {z : Int} (h : PInvR w R lim A n c lf out A1 c1 A2 c2 wr)
    (hm : m = out.length + 1) (hown : w1.ownsRow (R + 1) 3 1 (.slice A3 m c3) m (ii out ++ ii [z])) (hg : wr.grownBy w1 (A2.map (·.block))) (hat : A3.map (·.block) = A2.map (·.block) ∨ A3.map (·.block) = some wr.heap.size) :
    PInvR w R lim A n c lf (out ++ [z]) A1 c1 A3 c3 w1 := by
  have hrow : ∀ g, A2.map (·.block) = some g → R + 1 ≤ g := fun g hg => (own_lt h.own2 g hg).1
  have hne : ∀ b, b ≤ R → A2.map (·.block) ≠ some b := fun b hb e => by have := hrow b e; omega
  have hR := h.hR
  have hlt := h.b2.lt
  refine ⟨own_keep h.own1 hg (fun g hg' e => h.ap g e hg'), ?_, h.b0.grown hg (hne _ (by omega)), h.b1.grown hg (hne _ (by omega)), h.b2.grown hg (hne _ (by omega)), h.be.grown hg h.be.size (fun g hg' => by have := hrow g hg'; omega), h.hR, ?_⟩
  · have e : ii (out ++ [z]) = ii out ++ ii [z] := by simp [ii]
    rw [e, List.length_append, List.length_singleton, ← hm]
    exact hown
  · intro g hg1 hg3
    rcases hat with e | e
    · exact h.ap g hg1 (e ▸ hg3)
    · have := (own_lt h.own1 g hg1).2
      rw [e] at hg3
      injection hg3 with hg3
      omega
/-- One item more is left. -/
theorem PInvR.put_left {w : World} {R : Nat} {lim : Int} {A : Option Addr} {n c : Nat} {lf : List It} {out : List Int} {A1 A2 A3 : Option Addr} {c1 c2 c3 m : Nat} {wr w1 : World} {x : It} (h : PInvR w R lim A n c lf out A1 c1 A2 c2 wr)
    (hm : m = lf.length + 1) (hown : w1.ownsRow (R + 1) 26 4 (.slice A3 m c3) m (flat itc lf ++ flat itc [x])) (hg : wr.grownBy w1 (A1.map (·.block))) (hat : A3.map (·.block) = A1.map (·.block) ∨ A3.map (·.block) = some wr.heap.size) :
    PInvR w R lim A n c (lf ++ [x]) out A3 c3 A2 c2 (w1.setCell ⟨R, 1, none⟩ (.slice A3 m c3)) := by
  have hrow : ∀ g, A1.map (·.block) = some g → R + 1 ≤ g := fun g hg => (own_lt h.own1 g hg).1
  have hne : ∀ b, b ≤ R → A1.map (·.block) ≠ some b := fun b hb e => by have := hrow b e; omega
  have hR := h.hR
  have hlt := h.b2.lt
  have el : (lf ++ [x]).length = m := by rw [List.length_append, List.length_singleton, hm]
  refine ⟨?_, own_far (own_keep h.own2 hg (fun g hg' e => h.ap g hg' e)) (by omega) _, (h.b0.grown hg (hne _ (by omega))).far (by show w.heap.size ≠ R; omega) _, (h.b1.grown hg (hne _ (by omega))).far (by show w.heap.size + 1 ≠ R; omega) _, ?_, (h.be.grown hg h.be.size (fun g hg' => by have := hrow g hg'; omega)).setCell (by show w.heap.size ≤ R; omega) _, h.hR, ?_⟩
  · rw [el, flat_append]
    exact own_far hown (by omega) _
  · rw [el]
    exact (h.b2.grown hg (hne _ (by omega))).set 1 _
  · intro g hg1 hg3
    rcases hat with e | e
    · exact h.ap g (e ▸ hg1) hg3
    · have := (own_lt h.own2 g hg3).2
      rw [e] at hg1
      injection hg1 with hg1
      omega


set_option maxRecDepth 100000 in
set_option maxHeartbeats 3200000 in
theorem takeR_take (lim : Int) (A : Option Addr) (n c : Nat) (l : List It) (t h a : Int) (w : World) {ok : Nat → Prop} (hr : Rd w ok 4 A n (flat itc l)) (hn : n ≤ 1000000) (hm : quMay lim l = true) :
    Calls Tryd.prog 12 #[quA lim A n c, .int .i64 t, .int .i64 h, .int .i64 a, .bool false] w (PartPost w lim (leftOf (isTake t h a) l) (outOf (isTake t h a) l)) := by
  have hl := hr.flen itc_len (by omega)
  have Hl := Lib.hid hl
  have hq := mayR_any lim A n c l _ ((hr.alloc (.cells #[.int .i64 lim, .slice A n c] 24)).alloc (.cells #[.int .i64 0, .slice none 0 0] 24)) hn
  rw [hm] at hq
  have Hq := Lib.hid hq
  clear hl hm hq
  unfold quA at *
  have Hr := Lib.hid hr
  have hb0 : Bx ((w.alloc (.cells #[.int .i64 lim, .slice A n c] 24)).alloc (.cells #[.int .i64 0, .slice none 0 0] 24)) w.heap.size #[.int .i64 lim, .slice A n c] := (Bx.new w _ _ rfl).alloc _
  have hb1 : Bx ((w.alloc (.cells #[.int .i64 lim, .slice A n c] 24)).alloc (.cells #[.int .i64 0, .slice none 0 0] 24)) (w.heap.size + 1) #[.int .i64 0, .slice none 0 0] := Bx.new _ _ _ (by simp)
  go_enter Tryd.func12, Tryd.ntmps12
  go_wp2_with fail
  refine Hq.out.mono ?_
  rintro e w1 ⟨rfl, hb⟩
  replace hb0 := hb0.below hb
  replace hb1 := hb1.below hb
  have hbe : Below w.heap.size w w1 := (((Below.refl _ _).alloc (Nat.le_refl _) _).alloc (by simp) _).trans (hb.mono (by simp; omega))
  have hz := hb.size
  simp only [World.size_alloc] at hz
  clear hb
  have k0 : w1.cell? ⟨w.heap.size, 0, none⟩ = some (.int .i64 lim) := hb0.c 0
  have k1 : w1.cell? ⟨w.heap.size, 1, none⟩ = some (.slice A n c) := hb0.c 1
  have k2 : ∀ ob, (w1.alloc ob).cell? ⟨w.heap.size, 1, none⟩ = some (.slice A n c) := fun ob => (hb0.alloc ob).c 1
  have hinv : PInvR w w1.heap.size lim A n c (leftOf (isTake t h a) (l.take 0)) (outOf (isTake t h a) (l.take 0)) none 0 none 0 (w1.alloc (.cells #[.int .i64 lim, .slice none 0 0] 24)) :=
    ⟨own_nil _ _ _ _ _ rfl, own_nil _ _ _ _ _ rfl, hb0.alloc _, hb1.alloc _, Bx.new _ _ _ rfl, hbe.alloc hbe.size _, by omega, by simp⟩
  have Hinv := Lib.hid hinv
  clear hinv hb0 hb1
  go_wp2_with fail
  clear k0 k1 k2
  generalize w1.heap.size = R at Hinv hz
  go_loopg [12, 14, 15] n (fun m s12 s14 s15 wr => ∃ j A1 c1 A2 c2, m = n - j ∧ j ≤ n ∧ s14 = .int .i64 (j : Nat) ∧ s12 = .slice A2 (outOf (isTake t h a) (l.take j)).length c2 ∧ PInvR w R lim A n c (leftOf (isTake t h a) (l.take j)) (outOf (isTake t h a) (l.take j)) A1 c1 A2 c2 wr)
  case atStart => exact ⟨0, none, 0, none, 0, by omega, by omega, rfl, rfl, Hinv.out⟩
  case round =>
    obtain ⟨j, A1, c1, A2, c2, hm, hj, rfl, rfl, hi⟩ := hrel
    clear Hinv
    have Hm := Lib.hid hm
    clear hm
    have hR := hi.hR
    have kq : wr.cell? ⟨w.heap.size, 1, none⟩ = some (.slice A n c) := hi.b0.c 1
    have hlen := left_out_length (isTake t h a) (l.take j)
    have hlj : (l.take j).length = j := by rw [List.length_take, Hl.out]; omega
    rw [hlj] at hlen
    have hlo : (outOf (isTake t h a) (l.take j)).length ≤ j := by omega
    have hll : (leftOf (isTake t h a) (l.take j)).length ≤ j := by omega
    clear hlen hlj
    by_cases hlt : j < n
    · obtain ⟨b, o, x, hA, _, hbl, hx, hd0, hd1, hd2, hd3⟩ := it_cells (Hr.out.below hi.be) hlt
      have hs : l.take (j + 1) = l.take j ++ [x] := by rw [List.take_add_one, hx]; rfl
      have hlS : leftOf (isTake t h a) (l.take (j + 1)) = leftOf (isTake t h a) (l.take j) ++ (if isTake t h a x then [] else [x]) := by rw [hs]; unfold leftOf; rw [List.filter_append]; cases hpx : isTake t h a x <;> simp [hpx]
      have hoS : outOf (isTake t h a) (l.take (j + 1)) = outOf (isTake t h a) (l.take j) ++ (if isTake t h a x then [x.k] else []) := by rw [hs]; unfold outOf; rw [List.filter_append, List.map_append]; cases hpx : isTake t h a x <;> simp [hpx]
      have hjn : (j : Int) < n := by omega
      have h0j : (0 : Int) ≤ j := by omega
      generalize hlf : leftOf (isTake t h a) (l.take j) = lf at hi hlS hll
      generalize hout : outOf (isTake t h a) (l.take j) = out at hi hoS hlo
      have k1 := hi.b0.lt
      have z1 := hi.be.size
      have zR : R < wr.heap.size := hi.b2.lt
      have hi2 := hi.alloc (.cells #[.int .i64 x.t, .int .i64 x.r, .int .i64 x.i, .int .i64 x.k] 26)
      have p1 : (wr.alloc (.cells #[.int .i64 x.t, .int .i64 x.r, .int .i64 x.i, .int .i64 x.k] 26)).cell? ⟨R, 1, none⟩ = some (.slice A1 lf.length c1) := hi2.b2.c 1
      have Hi2 := Lib.hid hi2
      subst hA
      clear hs hx hlf hout hi hi2
      have hF : Rd ((wr.alloc (.cells #[.int .i64 x.t, .int .i64 x.r, .int .i64 x.i, .int .i64 x.k] 26)).alloc (.cells #[.int .i64 x.t, .int .i64 x.r, .int .i64 x.i, .int .i64 x.k] 26)) T 4 (some ⟨wr.heap.size + 1, 0, none⟩) 1 (flat itc [x]) := by
        have := (Rd.blit (w := wr.alloc (.cells #[.int .i64 x.t, .int .i64 x.r, .int .i64 x.i, .int .i64 x.k] 26)) (cs := #[.int .i64 x.t, .int .i64 x.r, .int .i64 x.i, .int .i64 x.k]) (t := 26) (fr := (0, 0)) (k := 4) rfl).any
        simpa [flat, itc] using this
      have hT : Rd ((wr.alloc (.cells #[.int .i64 x.t, .int .i64 x.r, .int .i64 x.i, .int .i64 x.k] 26)).alloc (.cells #[.int .i64 x.k] 3)) T 1 (some ⟨wr.heap.size + 1, 0, none⟩) 1 (ii [x.k]) := by
        have := (Rd.lit (w := wr.alloc (.cells #[.int .i64 x.t, .int .i64 x.r, .int .i64 x.i, .int .i64 x.k] 26)) (cs := #[.int .i64 x.k]) (t := 3) (fr := (0, 0)) (k := 1) rfl).any
        simpa [ii] using this
      have HF := Lib.hid hF
      have HT := Lib.hid hT
      have H1 := Lib.hid (itc_one [x])
      have H1' := Lib.hid (ii_one [x.k])
      clear hF hT
      rcases Bool.eq_false_or_eq_true (x.t == t) with h1 | h1
      · by_cases h2 : x.r ≤ h
        · by_cases h3 : x.i ≤ a
          · have hpx : isTake t h a x = true := by rw [isTake, h1, decide_eq_true h2, decide_eq_true h3]; rfl
            rw [hpx] at hlS hoS
            have HlS := Lib.hid hlS
            have HoS := Lib.hid hoS
            clear hlS hoS hpx
            go_wp2_with (at_builtin; go_must (refine wpList_append_any _ Tryd.underlying43 int_elem rfl (by omega) rfl rfl rfl (Hi2.out.own2.alloc _) rfl HT.out H1'.out (by omega) (by simp; omega) rfl rfl ?_); intro A3 c3 w3 hown3 hg3 hat3)
            have hnext := (Hi2.out.alloc _).put_out rfl hown3 hg3 hat3
            have Hnext := Lib.hid hnext
            clear hnext
            go_roundg (n - (j + 1))
            case measure => have := Hm.out; omega
            case rel =>
              refine ⟨j + 1, A1, c1, A3, c3, rfl, by omega, by go_num, ?_, ?_⟩
              · rw [HoS.out]; simp
              · rw [HlS.out, HoS.out]
                simpa using Hnext.out
          · have hpx : isTake t h a x = false := by rw [isTake, h1, decide_eq_true h2, decide_eq_false h3]; rfl
            rw [hpx] at hlS hoS
            have HlS := Lib.hid hlS
            have HoS := Lib.hid hoS
            clear hlS hoS hpx
            go_wp2_with (at_builtin; go_must (refine wpList_append_any _ Tryd.underlying22 itr_elem rfl (by omega) rfl rfl rfl (Hi2.out.own1.alloc _) rfl HF.out H1.out (by omega) (by simp; omega) rfl rfl ?_); intro A3 c3 w3 hown3 hg3 hat3; have hb3 := (Hi2.out.b2.alloc _).grown hg3 (fun e => by have := (own_lt Hi2.out.own1 _ e).1; omega); have m1 := hb3.c 1; have m2 := hb3.f 1)
            have hnext := (Hi2.out.alloc _).put_left rfl hown3 hg3 hat3
            have Hnext := Lib.hid hnext
            clear hnext m1 m2 hb3
            go_wp2_with fail
            go_roundg (n - (j + 1))
            case measure => have := Hm.out; omega
            case rel =>
              refine ⟨j + 1, A3, c3, A2, c2, rfl, by omega, by go_num, ?_, ?_⟩
              · rw [HoS.out]; simp
              · rw [HlS.out, HoS.out]
                simpa using Hnext.out
        · have hpx : isTake t h a x = false := by rw [isTake, h1, decide_eq_false h2]; rfl
          rw [hpx] at hlS hoS
          have HlS := Lib.hid hlS
          have HoS := Lib.hid hoS
          clear hlS hoS hpx
          go_wp2_with (at_builtin; go_must (refine wpList_append_any _ Tryd.underlying22 itr_elem rfl (by omega) rfl rfl rfl (Hi2.out.own1.alloc _) rfl HF.out H1.out (by omega) (by simp; omega) rfl rfl ?_); intro A3 c3 w3 hown3 hg3 hat3; have hb3 := (Hi2.out.b2.alloc _).grown hg3 (fun e => by have := (own_lt Hi2.out.own1 _ e).1; omega); have m1 := hb3.c 1; have m2 := hb3.f 1)
          have hnext := (Hi2.out.alloc _).put_left rfl hown3 hg3 hat3
          have Hnext := Lib.hid hnext
          clear hnext m1 m2 hb3
          go_wp2_with fail
          go_roundg (n - (j + 1))
          case measure => have := Hm.out; omega
          case rel =>
            refine ⟨j + 1, A3, c3, A2, c2, rfl, by omega, by go_num, ?_, ?_⟩
            · rw [HoS.out]; simp
            · rw [HlS.out, HoS.out]
              simpa using Hnext.out
      · have hpx : isTake t h a x = false := by rw [isTake, h1]; rfl
        rw [hpx] at hlS hoS
        have HlS := Lib.hid hlS
        have HoS := Lib.hid hoS
        clear hlS hoS hpx
        go_wp2_with (at_builtin; go_must (refine wpList_append_any _ Tryd.underlying22 itr_elem rfl (by omega) rfl rfl rfl (Hi2.out.own1.alloc _) rfl HF.out H1.out (by omega) (by simp; omega) rfl rfl ?_); intro A3 c3 w3 hown3 hg3 hat3; have hb3 := (Hi2.out.b2.alloc _).grown hg3 (fun e => by have := (own_lt Hi2.out.own1 _ e).1; omega); have m1 := hb3.c 1; have m2 := hb3.f 1)
        have hnext := (Hi2.out.alloc _).put_left rfl hown3 hg3 hat3
        have Hnext := Lib.hid hnext
        clear hnext m1 m2 hb3
        go_wp2_with fail
        go_roundg (n - (j + 1))
        case measure => have := Hm.out; omega
        case rel =>
          refine ⟨j + 1, A3, c3, A2, c2, rfl, by omega, by go_num, ?_, ?_⟩
          · rw [HoS.out]; simp
          · rw [HlS.out, HoS.out]
            simpa using Hnext.out
    · obtain rfl : j = n := by omega
      rw [List.take_of_length_le (Nat.le_of_eq Hl.out)] at *
      have k0 : wr.cell? ⟨R, 0, none⟩ = some (.int .i64 lim) := hi.b2.c 0
      have k1 : wr.cell? ⟨R, 1, none⟩ = some (.slice A1 (leftOf (isTake t h a) l).length c1) := hi.b2.c 1
      have k5 : wr.cell? ⟨w.heap.size + 1, 0, none⟩ = some (.int .i64 0) := hi.b1.c 0
      have k6 : wr.cell? ⟨w.heap.size + 1, 1, none⟩ = some (.slice none 0 0) := hi.b1.c 1
      have k7 : wr.frozen? ⟨w.heap.size + 1, 0, none⟩ = false := hi.b1.f 0
      have k8 : wr.frozen? ⟨w.heap.size + 1, 1, none⟩ = false := hi.b1.f 1
      have Hi := Lib.hid hi
      clear hi
      go_wp2_with fail
      refine bodyPost_ret (by simp [results, Tryd.results12, go_sem, k5, k6]; rfl) rfl ?_
      refine ⟨A1, _, c1, A2, _, c2, rfl, ?_, ?_, (Hi.out.be.setCell (by show w.heap.size ≤ w.heap.size + 1; omega) _).setCell (by show w.heap.size ≤ w.heap.size + 1; omega) _⟩
      · exact (((Rd.of_own Hi.out.own1).setCell (by show ¬ R + 1 ≤ w.heap.size + 1; omega) _).setCell (by show ¬ R + 1 ≤ w.heap.size + 1; omega) _).mono (fun b hb => by omega)
      · exact (((Rd.of_own Hi.out.own2).setCell (by show ¬ R + 1 ≤ w.heap.size + 1; omega) _).setCell (by show ¬ R + 1 ≤ w.heap.size + 1; omega) _).mono (fun b hb => by omega)

set_option maxRecDepth 100000 in
set_option maxHeartbeats 3200000 in
theorem takeR_fail (lim : Int) (A : Option Addr) (n c : Nat) (l : List It) (t h a : Int) (w : World) {ok : Nat → Prop} (hr : Rd w ok 4 A n (flat itc l)) (hn : n ≤ 1000000) (hm : quMay lim l = true) :
    Calls Tryd.prog 12 #[quA lim A n c, .int .i64 t, .int .i64 h, .int .i64 a, .bool true] w (PartPost w lim (leftOf (isFail t) l) (outOf (isFail t) l)) := by
  have hl := hr.flen itc_len (by omega)
  have Hl := Lib.hid hl
  have hq := mayR_any lim A n c l _ ((hr.alloc (.cells #[.int .i64 lim, .slice A n c] 24)).alloc (.cells #[.int .i64 0, .slice none 0 0] 24)) hn
  rw [hm] at hq
  have Hq := Lib.hid hq
  clear hl hm hq
  unfold quA at *
  have Hr := Lib.hid hr
  have hb0 : Bx ((w.alloc (.cells #[.int .i64 lim, .slice A n c] 24)).alloc (.cells #[.int .i64 0, .slice none 0 0] 24)) w.heap.size #[.int .i64 lim, .slice A n c] := (Bx.new w _ _ rfl).alloc _
  have hb1 : Bx ((w.alloc (.cells #[.int .i64 lim, .slice A n c] 24)).alloc (.cells #[.int .i64 0, .slice none 0 0] 24)) (w.heap.size + 1) #[.int .i64 0, .slice none 0 0] := Bx.new _ _ _ (by simp)
  go_enter Tryd.func12, Tryd.ntmps12
  go_wp2_with fail
  refine Hq.out.mono ?_
  rintro e w1 ⟨rfl, hb⟩
  replace hb0 := hb0.below hb
  replace hb1 := hb1.below hb
  have hbe : Below w.heap.size w w1 := (((Below.refl _ _).alloc (Nat.le_refl _) _).alloc (by simp) _).trans (hb.mono (by simp; omega))
  have hz := hb.size
  simp only [World.size_alloc] at hz
  clear hb
  have k0 : w1.cell? ⟨w.heap.size, 0, none⟩ = some (.int .i64 lim) := hb0.c 0
  have k1 : w1.cell? ⟨w.heap.size, 1, none⟩ = some (.slice A n c) := hb0.c 1
  have k2 : ∀ ob, (w1.alloc ob).cell? ⟨w.heap.size, 1, none⟩ = some (.slice A n c) := fun ob => (hb0.alloc ob).c 1
  have hinv : PInvR w w1.heap.size lim A n c (leftOf (isFail t) (l.take 0)) (outOf (isFail t) (l.take 0)) none 0 none 0 (w1.alloc (.cells #[.int .i64 lim, .slice none 0 0] 24)) :=
    ⟨own_nil _ _ _ _ _ rfl, own_nil _ _ _ _ _ rfl, hb0.alloc _, hb1.alloc _, Bx.new _ _ _ rfl, hbe.alloc hbe.size _, by omega, by simp⟩
  have Hinv := Lib.hid hinv
  clear hinv hb0 hb1
  go_wp2_with fail
  clear k0 k1 k2
  generalize w1.heap.size = R at Hinv hz
  go_loopg [12, 14, 15] n (fun m s12 s14 s15 wr => ∃ j A1 c1 A2 c2, m = n - j ∧ j ≤ n ∧ s14 = .int .i64 (j : Nat) ∧ s12 = .slice A2 (outOf (isFail t) (l.take j)).length c2 ∧ PInvR w R lim A n c (leftOf (isFail t) (l.take j)) (outOf (isFail t) (l.take j)) A1 c1 A2 c2 wr)
  case atStart => exact ⟨0, none, 0, none, 0, by omega, by omega, rfl, rfl, Hinv.out⟩
  case round =>
    obtain ⟨j, A1, c1, A2, c2, hm, hj, rfl, rfl, hi⟩ := hrel
    clear Hinv
    have Hm := Lib.hid hm
    clear hm
    have hR := hi.hR
    have kq : wr.cell? ⟨w.heap.size, 1, none⟩ = some (.slice A n c) := hi.b0.c 1
    have hlen := left_out_length (isFail t) (l.take j)
    have hlj : (l.take j).length = j := by rw [List.length_take, Hl.out]; omega
    rw [hlj] at hlen
    have hlo : (outOf (isFail t) (l.take j)).length ≤ j := by omega
    have hll : (leftOf (isFail t) (l.take j)).length ≤ j := by omega
    clear hlen hlj
    by_cases hlt : j < n
    · obtain ⟨b, o, x, hA, _, hbl, hx, hd0, hd1, hd2, hd3⟩ := it_cells (Hr.out.below hi.be) hlt
      have hs : l.take (j + 1) = l.take j ++ [x] := by rw [List.take_add_one, hx]; rfl
      have hlS : leftOf (isFail t) (l.take (j + 1)) = leftOf (isFail t) (l.take j) ++ (if isFail t x then [] else [x]) := by rw [hs]; unfold leftOf; rw [List.filter_append]; cases hpx : isFail t x <;> simp [hpx]
      have hoS : outOf (isFail t) (l.take (j + 1)) = outOf (isFail t) (l.take j) ++ (if isFail t x then [x.k] else []) := by rw [hs]; unfold outOf; rw [List.filter_append, List.map_append]; cases hpx : isFail t x <;> simp [hpx]
      have hjn : (j : Int) < n := by omega
      have h0j : (0 : Int) ≤ j := by omega
      generalize hlf : leftOf (isFail t) (l.take j) = lf at hi hlS hll
      generalize hout : outOf (isFail t) (l.take j) = out at hi hoS hlo
      have k1 := hi.b0.lt
      have z1 := hi.be.size
      have zR : R < wr.heap.size := hi.b2.lt
      have hi2 := hi.alloc (.cells #[.int .i64 x.t, .int .i64 x.r, .int .i64 x.i, .int .i64 x.k] 26)
      have p1 : (wr.alloc (.cells #[.int .i64 x.t, .int .i64 x.r, .int .i64 x.i, .int .i64 x.k] 26)).cell? ⟨R, 1, none⟩ = some (.slice A1 lf.length c1) := hi2.b2.c 1
      have Hi2 := Lib.hid hi2
      subst hA
      clear hs hx hlf hout hi hi2
      have hF : Rd ((wr.alloc (.cells #[.int .i64 x.t, .int .i64 x.r, .int .i64 x.i, .int .i64 x.k] 26)).alloc (.cells #[.int .i64 x.t, .int .i64 x.r, .int .i64 x.i, .int .i64 x.k] 26)) T 4 (some ⟨wr.heap.size + 1, 0, none⟩) 1 (flat itc [x]) := by
        have := (Rd.blit (w := wr.alloc (.cells #[.int .i64 x.t, .int .i64 x.r, .int .i64 x.i, .int .i64 x.k] 26)) (cs := #[.int .i64 x.t, .int .i64 x.r, .int .i64 x.i, .int .i64 x.k]) (t := 26) (fr := (0, 0)) (k := 4) rfl).any
        simpa [flat, itc] using this
      have hT : Rd ((wr.alloc (.cells #[.int .i64 x.t, .int .i64 x.r, .int .i64 x.i, .int .i64 x.k] 26)).alloc (.cells #[.int .i64 x.k] 3)) T 1 (some ⟨wr.heap.size + 1, 0, none⟩) 1 (ii [x.k]) := by
        have := (Rd.lit (w := wr.alloc (.cells #[.int .i64 x.t, .int .i64 x.r, .int .i64 x.i, .int .i64 x.k] 26)) (cs := #[.int .i64 x.k]) (t := 3) (fr := (0, 0)) (k := 1) rfl).any
        simpa [ii] using this
      have HF := Lib.hid hF
      have HT := Lib.hid hT
      have H1 := Lib.hid (itc_one [x])
      have H1' := Lib.hid (ii_one [x.k])
      clear hF hT
      rcases Bool.eq_false_or_eq_true (x.t != t) with h1 | h1
      · have hpx : isFail t x = true := h1
        rw [hpx] at hlS hoS
        have HlS := Lib.hid hlS
        have HoS := Lib.hid hoS
        clear hlS hoS hpx
        go_wp2_with (at_builtin; go_must (refine wpList_append_any _ Tryd.underlying43 int_elem rfl (by omega) rfl rfl rfl (Hi2.out.own2.alloc _) rfl HT.out H1'.out (by omega) (by simp; omega) rfl rfl ?_); intro A3 c3 w3 hown3 hg3 hat3)
        have hnext := (Hi2.out.alloc _).put_out rfl hown3 hg3 hat3
        have Hnext := Lib.hid hnext
        clear hnext
        go_roundg (n - (j + 1))
        case measure => have := Hm.out; omega
        case rel =>
          refine ⟨j + 1, A1, c1, A3, c3, rfl, by omega, by go_num, ?_, ?_⟩
          · rw [HoS.out]; simp
          · rw [HlS.out, HoS.out]
            simpa using Hnext.out
      · have hpx : isFail t x = false := h1
        rw [hpx] at hlS hoS
        have HlS := Lib.hid hlS
        have HoS := Lib.hid hoS
        clear hlS hoS hpx
        go_wp2_with (at_builtin; go_must (refine wpList_append_any _ Tryd.underlying22 itr_elem rfl (by omega) rfl rfl rfl (Hi2.out.own1.alloc _) rfl HF.out H1.out (by omega) (by simp; omega) rfl rfl ?_); intro A3 c3 w3 hown3 hg3 hat3; have hb3 := (Hi2.out.b2.alloc _).grown hg3 (fun e => by have := (own_lt Hi2.out.own1 _ e).1; omega); have m1 := hb3.c 1; have m2 := hb3.f 1)
        have hnext := (Hi2.out.alloc _).put_left rfl hown3 hg3 hat3
        have Hnext := Lib.hid hnext
        clear hnext m1 m2 hb3
        go_wp2_with fail
        go_roundg (n - (j + 1))
        case measure => have := Hm.out; omega
        case rel =>
          refine ⟨j + 1, A3, c3, A2, c2, rfl, by omega, by go_num, ?_, ?_⟩
          · rw [HoS.out]; simp
          · rw [HlS.out, HoS.out]
            simpa using Hnext.out
    · obtain rfl : j = n := by omega
      rw [List.take_of_length_le (Nat.le_of_eq Hl.out)] at *
      have k0 : wr.cell? ⟨R, 0, none⟩ = some (.int .i64 lim) := hi.b2.c 0
      have k1 : wr.cell? ⟨R, 1, none⟩ = some (.slice A1 (leftOf (isFail t) l).length c1) := hi.b2.c 1
      have k5 : wr.cell? ⟨w.heap.size + 1, 0, none⟩ = some (.int .i64 0) := hi.b1.c 0
      have k6 : wr.cell? ⟨w.heap.size + 1, 1, none⟩ = some (.slice none 0 0) := hi.b1.c 1
      have k7 : wr.frozen? ⟨w.heap.size + 1, 0, none⟩ = false := hi.b1.f 0
      have k8 : wr.frozen? ⟨w.heap.size + 1, 1, none⟩ = false := hi.b1.f 1
      have Hi := Lib.hid hi
      clear hi
      go_wp2_with fail
      refine bodyPost_ret (by simp [results, Tryd.results12, go_sem, k5, k6]; rfl) rfl ?_
      refine ⟨A1, _, c1, A2, _, c2, rfl, ?_, ?_, (Hi.out.be.setCell (by show w.heap.size ≤ w.heap.size + 1; omega) _).setCell (by show w.heap.size ≤ w.heap.size + 1; omega) _⟩
      · exact (((Rd.of_own Hi.out.own1).setCell (by show ¬ R + 1 ≤ w.heap.size + 1; omega) _).setCell (by show ¬ R + 1 ≤ w.heap.size + 1; omega) _).mono (fun b hb => by omega)
      · exact (((Rd.of_own Hi.out.own2).setCell (by show ¬ R + 1 ≤ w.heap.size + 1; omega) _).setCell (by show ¬ R + 1 ≤ w.heap.size + 1; omega) _).mono (fun b hb => by omega)
end Go.Proofs.YtodjjcnidgmkmaaDoor
