/- Walk: tollbarlaw13.RaftOpens.
   The one listed variable, errors.errorType: what the row's list gives a walk, and a world that meets it (after the kit's worked text ToyasProofs).
   The listed variables: three tables of the library's, and (in some rows) errors.errorType: what the rows' lists give a walk, and a world that meets them.
   The listed variables of the stable laws: three tables, errors.errorType, and strconv's two errors.
   The law RaftOpens: its row, out of the walk. For every input that can be read the Go function answers true and leaves its arguments as they were. -/
import Derived.Test.YtmhaahcbmdhinaaGreatDoorKO2
import Derived.Test.YtmhaahcbmdhinaaGreatDoorK28
import Derived.Test.YtmhaahcbmdhinaaGreatDoorK23
import Derived.Test.YtmhaahcbmdhinaaGreatDoorK17
import Derived.Test.YtmhaahcbmdhinaaGreatDoorRows
import Derived.ChangeSame
import Derived.ChangeVars
import Derived.JoinedOf
import Derived.RowKit
import Derived.RowKitTokens
import Derived.LaidLaws
import Derived.LaidHandle
import Derived.Stop.Joined
import Derived.Test.YtmhaahcbmdhinaaGreatDoorK2
import Derived.Deep.DeepLaidRun
import Derived.Stop.LaidErr
import Derived.Test.YtmhaahcbmdhinaaGreatDoorK3
import Derived.Test.YtmhaahcbmdhinaaGreatDoorK0
import Derived.Test.YtmhaahcbmdhinaaGreatDoorCards
import Derived.Test.YtmhaahcbmdhinaaGreatDoorTie
import Derived.SevenTiedAt
namespace Go.Proofs.YtmhaahcbmdhinaaGreatDoor
open Go.RowKit
set_option maxRecDepth 100000
set_option linter.unusedVariables false
set_option linter.unusedSimpArgs false
set_option maxHeartbeats 12800000 in
theorem opens_walk (id span : Int) (s : Sv) (W : World) (h : s.At W T) (hI : s.I) (ht : TabW W) (hv : EvW W W.heap.size) (hg : ErrT W) :
    Calls Tryz.prog 3 #[.int .i64 id, .int .i64 span, s.val] W (YesPost W) := by
  have he : Env W.heap.size W := ⟨W, rfl, hv, ht, Below.refl _ _⟩
  obtain ⟨W0, hW0⟩ : ∃ W0, W0 = W.alloc (.cells s.cells 28) := ⟨_, rfl⟩
  have b0 : Bx W0 W.heap.size s.cells := by subst hW0; exact Bx.new _ _ _ rfl
  have hb0 : Below W.heap.size W W0 := by subst hW0; exact (Below.refl _ _).alloc (Nat.le_refl _) _
  have k1 := h.k1
  have k2 := h.k2
  have k3 := h.k3
  unfold maxLen at k1 k2 k3
  have hlg := longs_any s.A s.n s.c s.L W0 (h.below hb0).l (fun x hx => (hI.2 x hx).2) (by omega)
  obtain ⟨lg, hlgv⟩ : ∃ lg, longB s.L = lg := ⟨_, rfl⟩
  rw [hlgv] at hlg
  have H := Lib.hid (And.intro he (And.intro hb0 (And.intro h (And.intro hI (And.intro hg b0)))))
  have HW := Lib.hid hW0
  have Hlg := Lib.hid hlg
  have Hlv := Lib.hid hlgv
  obtain ⟨c0, c1, c2, c3, c4, c5, c6⟩ := Sv.c7 b0
  clear he hb0 h hI hg b0 hW0 hlg hlgv ht hv
  unfold Sv.val stA
  go_enter Tryz.func3, Tryz.ntmps3
  go_upto_region 1 with (fail)
  have HW' := HW.out
  unfold Sv.cells at HW'
  rw [← HW']
  clear HW'
  go_wp2_with fail
  refine Hlg.out.mono ?_
  rintro e w1 ⟨rfl, hb1⟩
  clear c0 c1 c2 c3 c4 c5 c6
  have en1 := H.out.1.new (H.out.2.1.trans (hb1.mono H.out.2.1.size))
  have B1 := Lib.hid (And.intro hb1 en1)
  clear hb1 en1
  obtain ⟨c0, c1, c2, c3, c4, c5, c6⟩ := Sv.c7 (H.out.2.2.2.2.2.below B1.out.1)
  have hsure := sure_any w1 B1.out.2
  have Hsure := Lib.hid hsure
  clear hsure
  have hcase : lg = true ∨ (lg = false ∧ decide ((5000 : Int) < (s.ns : Int)) = true) ∨ (lg = false ∧ decide ((5000 : Int) < (s.ns : Int)) = false ∧ decide ((100 : Int) < (s.nc : Int)) = true) ∨ (lg = false ∧ decide ((5000 : Int) < (s.ns : Int)) = false ∧ decide ((100 : Int) < (s.nc : Int)) = false) := by
    cases lg <;> cases decide ((5000 : Int) < (s.ns : Int)) <;> cases decide ((100 : Int) < (s.nc : Int)) <;> simp
  rcases hcase with rfl | ⟨rfl, g1⟩ | ⟨rfl, g1, g2⟩ | ⟨rfl, g1, g2⟩
  rotate_left 3
  · have hno := longB_no Hlv.out
    have hll := H.out.2.2.1.l.flen ecell_len (by omega)
    have hf : s.Fit := ⟨H.out.2.2.2.1.1, fun y hy => ⟨(H.out.2.2.2.1.2 y hy).1, by have := hno.2 y hy; omega⟩, by
      have g1' := of_decide_eq_false g1
      have g2' := of_decide_eq_false g2
      omega⟩
    have hW1 := H.out.2.1.trans (B1.out.1.mono H.out.2.1.size)
    have hgv := giveS_any s w1 (H.out.2.2.1.below hW1) hf
    have Hgv := Lib.hid hgv
    have F := Lib.hid (And.intro hf hW1)
    unfold Sv.val stA at Hgv
    clear hgv hf hW1 hno hll k1 k2 k3
    go_wp2_with fail
    refine Hgv.out.mono ?_
    intro e w2 h2
    obtain ⟨s2, rfl, a2, e2, f2, hb2⟩ := h2
    unfold Sv.val stA
    have hW2 := F.out.2.trans (hb2.mono F.out.2.size)
    have hZ2 := B1.out.1.trans (hb2.mono B1.out.1.size)
    have S2 := Lib.hid (And.intro a2 (And.intro e2 (And.intro f2 (And.intro hW2 hZ2))))
    clear a2 e2 f2 hb2 hW2 hZ2 c0 c1 c2 c3 c4 c5 c6
    by_cases hgood : (1 ≤ id ∧ id ≤ 64 ∧ 2 ≤ span ∧ span ≤ 1000) ∧ s.st.may = true
    · have hnw := new_ok id span 0 s2 w2 S2.out.1 S2.out.2.2.1 (H.out.1.new S2.out.2.2.2.1).ev hgood.1.1 hgood.1.2.1 hgood.1.2.2.1 hgood.1.2.2.2
      unfold Sv.val stA at hnw
      have Hnw := Lib.hid hnw
      have Hgd := Lib.hid hgood
      clear hnw hgood
      go_wp2_with fail
      refine Hnw.out.mono ?_
      intro e w3 h3
      unfold NewPost at h3
      rw [if_pos (by rw [S2.out.2.1]; exact Hgd.out.2), S2.out.2.1] at h3
      obtain ⟨p, s3, rfl, b3, a3, e3, hp, m3, hb3⟩ := h3
      have hcx : CX W.heap.size w3 (p + 1) (fun b => b = p ∨ b = p + 1) (fun b => b = p ∨ b = p + 1) (Cr.new id span 0 s.st) (newMb p s3) := CX.ofNew S2.out.2.2.2.1.size b3 a3 e3 hp m3
      have hok : (Cr.new id span 0 s.st).Ok 1 := Cr.Ok.new Hgd.out.2 (by
        have h1 := H.out.2.2.1.sn.blen
        have h2 := of_decide_eq_false g1
        show s.sn.length ≤ 1048576
        omega) ⟨Hgd.out.1.1, Hgd.out.1.2.1⟩ Hgd.out.1.2.2
      have hZ3 := S2.out.2.2.2.2.trans (hb3.mono S2.out.2.2.2.2.size)
      have hW3 := H.out.2.1.trans (hZ3.mono H.out.2.1.size)
      obtain ⟨c0, c1, c2, c3, c4, c5, c6⟩ := Sv.c7 (H.out.2.2.2.2.2.below hZ3)
      have hr := newR_ok id span 0 s w3 (H.out.2.2.1.below hW3) F.out.1 Hgd.out.1.1 Hgd.out.1.2.1 Hgd.out.1.2.2.1 Hgd.out.1.2.2.2
      unfold Sv.val stA at hr
      have Hr := Lib.hid hr
      have W3 := Lib.hid (And.intro hW3 (And.intro hcx hok))
      clear b3 a3 e3 hp m3 hb3 hcx hok hZ3 hW3 hr
      go_wp2_with fail
      refine Hr.out.mono ?_
      rintro e w4 ⟨cs, z1, z2, z3, rfl, hb4⟩
      rw [if_pos Hgd.out.2]
      have W4 := Lib.hid (W3.out.1.trans (hb4.mono W3.out.1.size))
      have X4 := Lib.hid (W3.out.2.1.below hb4)
      have Z := Lib.hid (And.intro z1 (And.intro z2 (z3 Hgd.out.2)))
      have hi : (Tryz.prog.info? 47).map (·.size) = some cs.size := by rw [z1]; kernel_rfl
      have Hi := Lib.hid hi
      have hq : (w4.alloc (.cells coreZ 47)).heap[w4.heap.size]? = some (.cells coreZ 47 (0, 0)) := heap_alloc_new _ _
      have Hq := Lib.hid hq
      clear hb4 c0 c1 c2 c3 c4 c5 c6 z1 z2 z3 hi hq
      unfold coreZ at Hq
      go_wp2_with (refine wpList_store_row rfl 47 _ _ rfl w4.heap.size cs rfl rfl _ _ Hq.out Hi.out (Z.out.1.symm ▸ rfl) Z.out.2.1 ?_)
      obtain ⟨W5, hW5⟩ : ∃ W5, W5 = (w4.alloc (.cells coreZ 47)).setRow w4.heap.size cs := ⟨_, rfl⟩
      have hb45 : Below w4.heap.size w4 W5 := by
        subst hW5
        exact below_setRow ((Below.refl _ _).alloc (Nat.le_refl _) _) (Nat.le_refl _) _
      have x5 : Bx W5 w4.heap.size cs := by
        subst hW5
        exact ⟨_, setRow_heap _ _ _ _ _ _ (heap_alloc_new _ _)⟩
      unfold coreZ at hW5
      rw [← hW5]
      have hb5 := W4.out.trans (hb45.mono W4.out.size)
      have hnum : Calls Tryz.prog 15 #[.nilIface] W5 (fun e w' => e = .returned (.int .i64 0) ∧ Below W5.heap.size W5 w') := num_any 0 W5 (H.out.2.2.2.2.1.under hb5 H.out.2.2.2.2.1.lt)
      have Hnum := Lib.hid hnum
      have X5 := Lib.hid (And.intro (X4.out.below hb45) (And.intro x5 hb5))
      clear hnum hb5 hW5 hb45 x5
      refine Hnum.out.mono ?_
      rintro e w6 ⟨rfl, hb6⟩
      have W6 := Lib.hid (X5.out.2.2.trans (hb6.mono X5.out.2.2.size))
      have x6 := X5.out.2.1.below hb6
      rw [Z.out.2.2] at x6
      have has := as_any (X5.out.1.below hb6) W3.out.2.2 (H.out.1.new W6.out) s (H.out.2.2.1.below W6.out) F.out.1 rfl id span 0 (drw span 0) (.slice none 0 0) (.slice none 0 0) 0 (.slice none 0 0)
      have Hrg := Lib.hid (Bx.range x6)
      have Has := Lib.hid has
      unfold coreR at Has
      clear hb6 x6 has
      go_upto_region 7 with (fail)
      refine wp_region_lit ?_
      refine BigFrame.wpList_want (by rfl) (fun K hK => ?_)
      go_simp
      refine hK _ _ ?_
      clear hK K
      try simp only [Act.put, List.setIfInBounds_toArray, List.set_cons_zero, List.set_cons_succ]
      refine BigFrame.wpList_want (by rfl) (fun K hK => ?_)
      go_simp
      refine hK _ _ ?_
      clear hK K
      try simp only [Act.put, List.setIfInBounds_toArray, List.set_cons_zero, List.set_cons_succ]
      refine BigFrame.wpList_want (by rfl) (fun K hK => ?_)
      go_simp
      refine hK _ _ ?_
      clear hK K
      try simp only [Act.put, List.setIfInBounds_toArray, List.set_cons_zero, List.set_cons_succ]
      refine BigFrame.wpList_want (by rfl) (fun K hK => ?_)
      go_simp
      refine hK _ _ ?_
      clear hK K
      try simp only [Act.put, List.setIfInBounds_toArray, List.set_cons_zero, List.set_cons_succ]
      refine BigFrame.wpList_want (by rfl) (fun K hK => ?_)
      refine wp_load_mid 47 _ rfl w4.heap.size 0 (by rfl) _ _ Hrg.out Tryz.underlying47 rfl (by kernel_rfl) ?_
      refine hK _ _ ?_
      clear hK K
      try simp only [Act.put, List.setIfInBounds_toArray, List.set_cons_zero, List.set_cons_succ]
      go_wp2_with fail
      refine Has.out.mono ?_
      rintro e w7 ⟨rfl, hb7⟩
      have W7 := Lib.hid (W6.out.trans (hb7.mono W6.out.size))
      have hsu := sure_any w7 (H.out.1.new W7.out)
      have Hsu := Lib.hid hsu
      clear hsu hb7
      go_wp2_with fail
      refine Hsu.out.mono ?_
      rintro e w8 ⟨rfl, hb8⟩
      have W8 := Lib.hid (W7.out.trans (hb8.mono W7.out.size))
      clear hb8
      go_wp2_with fail
      go_ret
      exact ⟨rfl, W8.out⟩
    · have hn : Calls Tryz.prog 12 #[.int .i64 id, .int .i64 span, s2.val, .int .i64 0] w2 (fun e w' => e = .returned (.tuple #[.pointer none, .iface 105 (.int .i64 1)]) ∧ Below w2.heap.size w2 w') := by
        by_cases hb : 1 ≤ id ∧ id ≤ 64 ∧ 2 ≤ span ∧ span ≤ 1000
        · refine (new_ok id span 0 s2 w2 S2.out.1 S2.out.2.2.1 (H.out.1.new S2.out.2.2.2.1).ev hb.1 hb.2.1 hb.2.2.1 hb.2.2.2).mono ?_
          intro e w' hp
          unfold NewPost at hp
          rwa [if_neg (by rw [S2.out.2.1]; exact fun hm => hgood ⟨hb, hm⟩)] at hp
        · exact new_bad id span 0 s2 w2 hb
      unfold Sv.val stA at hn
      have Hn := Lib.hid hn
      have Hbad := Lib.hid hgood
      clear hn hgood
      go_wp2_with fail
      refine Hn.out.mono ?_
      rintro e w3 ⟨rfl, hb3⟩
      have hZ3 := S2.out.2.2.2.2.trans (hb3.mono S2.out.2.2.2.2.size)
      have hW3 := H.out.2.1.trans (hZ3.mono H.out.2.1.size)
      obtain ⟨c0, c1, c2, c3, c4, c5, c6⟩ := Sv.c7 (H.out.2.2.2.2.2.below hZ3)
      have hr : Calls Tryz.prog 14 #[.int .i64 id, .int .i64 span, s.val, .int .i64 0] w3 (fun e w' => ∃ cs : Array Value, cs.size = 19 ∧ cs.all (·.oneCell') = true ∧ e = .returned (.tuple #[.agg cs, .int .i64 1]) ∧ Below w3.heap.size w3 w') := by
        by_cases hb : 1 ≤ id ∧ id ≤ 64 ∧ 2 ≤ span ∧ span ≤ 1000
        · refine (newR_ok id span 0 s w3 (H.out.2.2.1.below hW3) F.out.1 hb.1 hb.2.1 hb.2.2.1 hb.2.2.2).mono ?_
          rintro e w' ⟨cs, q1, q2, _, q3, q4⟩
          refine ⟨cs, q1, q2, ?_, q4⟩
          rwa [if_neg (fun hm => Hbad.out ⟨hb, hm⟩)] at q3
        · refine (newR_bad id span 0 s w3 (H.out.2.2.1.below hW3) F.out.1 hb).mono ?_
          rintro e w' ⟨q1, q2⟩
          exact ⟨coreZ, rfl, coreZ_one, q1, q2⟩
      unfold Sv.val stA at hr
      have Hr := Lib.hid hr
      have W3 := Lib.hid hW3
      clear hb3 hW3 hr hZ3
      go_wp2_with fail
      refine Hr.out.mono ?_
      rintro e w4 ⟨cs, z1, z2, rfl, hb4⟩
      have W4 := Lib.hid (W3.out.trans (hb4.mono W3.out.size))
      have Z := Lib.hid (And.intro z1 z2)
      have hi : (Tryz.prog.info? 47).map (·.size) = some cs.size := by rw [z1]; kernel_rfl
      have Hi := Lib.hid hi
      have hq : (w4.alloc (.cells coreZ 47)).heap[w4.heap.size]? = some (.cells coreZ 47 (0, 0)) := heap_alloc_new _ _
      have Hq := Lib.hid hq
      clear hb4 c0 c1 c2 c3 c4 c5 c6 z1 z2 hi hq
      unfold coreZ at Hq
      go_wp2_with (refine wpList_store_row rfl 47 _ _ rfl w4.heap.size cs rfl rfl _ _ Hq.out Hi.out (Z.out.1.symm ▸ rfl) Z.out.2 ?_)
      obtain ⟨W5, hW5⟩ : ∃ W5, W5 = (w4.alloc (.cells coreZ 47)).setRow w4.heap.size cs := ⟨_, rfl⟩
      have hb5 : Below W.heap.size W W5 := by
        subst hW5
        exact below_setRow (W4.out.trans (((Below.refl _ _).alloc (Nat.le_refl _) _).mono W4.out.size)) W4.out.size _
      unfold coreZ at hW5
      rw [← hW5]
      have hnum : Calls Tryz.prog 15 #[.iface 105 (.int .i64 1)] W5 (fun e w' => e = .returned (.int .i64 1) ∧ Below W5.heap.size W5 w') := num_any 1 W5 (H.out.2.2.2.2.1.under hb5 H.out.2.2.2.2.1.lt)
      have Hnum := Lib.hid hnum
      have W5' := Lib.hid hb5
      clear hnum hb5 hW5
      refine Hnum.out.mono ?_
      rintro e w6 ⟨rfl, hb6⟩
      have W6 := Lib.hid (W5'.out.trans (hb6.mono W5'.out.size))
      have hsu := sure_any w6 (H.out.1.new W6.out)
      have Hsu := Lib.hid hsu
      clear hsu hb6
      go_wp2_with fail
      refine Hsu.out.mono ?_
      rintro e w7 ⟨rfl, hb7⟩
      have W7 := Lib.hid (W6.out.trans (hb7.mono W6.out.size))
      clear hb7
      go_wp2_with fail
      go_ret
      exact ⟨rfl, W7.out⟩
  all_goals
    go_wp2_with fail
    refine Hsure.out.mono ?_
    rintro e w2 ⟨rfl, hb2⟩
    have HB := Lib.hid (H.out.2.1.trans ((B1.out.1.trans (hb2.mono B1.out.1.size)).mono H.out.2.1.size))
    clear hb2
    go_wp2_with fail
    go_ret
    exact ⟨rfl, HB.out⟩
end Go.Proofs.YtmhaahcbmdhinaaGreatDoor
namespace Go.Proofs.YtmhaahcbmdhinaaGreatDoor
open Go.ChangeShapes Go.WideShapes Go.RowKit
set_option linter.unusedVariables false
theorem La.own : ownKnob Tryz.prog.godebug = none := by kernel_rfl
theorem La.laidOut : laidOutB Tryz.prog = true := by kernel_rfl
theorem La.et : Tryz.prog.globalNamed "errors.errorType" = some 0 := by kernel_rfl
theorem La.rt : (Tryz.prog.cutTypes.find? (·.1 == "internal/reflectlite.rtype")).map (·.2) = some 240 := by kernel_rfl
theorem La.oneRow : ((List.range 397).filter fun t => Tryz.prog.rowNamed t [101, 114, 114, 111, 114]) = [33] := by kernel_rfl
theorem La.size : Tryz.prog.types.size = 397 := by kernel_rfl
theorem handle_of_laid {W : World} (h : laidMetH Tryz.prog [("errors.errorType", Rows.laid_errors_errorType)] W) : ErrT W := by
  have h' : laidMet Tryz.prog [] W ∧ handlesMet Tryz.prog [("errors.errorType", Rows.laid_errors_errorType)] W := h
  obtain ⟨name, u, ty, e1, e2, e3, e4, e5⟩ := h'.2 _ (List.mem_singleton.2 rfl)
  have en : name = [101, 114, 114, 111, 114] := (Option.some.inj e1).symm
  subst en
  obtain rfl := Option.some.inj (La.rt.symm.trans e2)
  have hm : ty ∈ (List.range 397).filter fun t => Tryz.prog.rowNamed t [101, 114, 114, 111, 114] := List.mem_filter.2 ⟨List.mem_range.2 (by rw [← La.size]; exact e3), e4⟩
  rw [La.oneRow] at hm
  obtain rfl := List.mem_singleton.1 hm
  have hh : typeHandle Tryz.prog 33 = .pointer (some ⟨6, 33, none⟩) := by kernel_rfl
  rw [hh] at e5
  have := World.var?_cell La.et e5 0
  unfold ErrT
  simpa using this
/-- A world that meets the condition: the settled one, the variable's cell laid. -/
noncomputable def laidWorld (os : Os) : World :=
  let w0 := World.holding Tryz.prog os ⟨#[], #[], []⟩
  { w0 with heap := w0.heap.modify 0 fun
      | .cells _ t frozen => .cells #[.iface 240 (.agg #[.pointer (some ⟨6, 33, none⟩)])] t frozen
      | o => o }
theorem laidWorld_met (os : Os) (args : Array Value) : laidMetH Tryz.prog [("errors.errorType", Rows.laid_errors_errorType)] ((laidWorld os).forCall (fun _ _ => 0) ⟨#[], args, []⟩).memory :=
  laidMetH_of_parts (laidMet_nil _ _) (by kernel_rfl)
end Go.Proofs.YtmhaahcbmdhinaaGreatDoor
namespace Go.Proofs.YtmhaahcbmdhinaaGreatDoor
open Go.ChangeShapes Go.WideShapes Go.RowKit
set_option maxRecDepth 100000
set_option linter.unusedVariables false
abbrev L3 : List (String × DataW Unit) := [("math/bits.deBruijn32tab", Rows.laid_math_bits_deBruijn32tab), ("math/bits.deBruijn64tab", Rows.laid_math_bits_deBruijn64tab), ("internal/strconv.uint64pow10", Rows.laid_internal_strconv_uint64pow10)]
abbrev L4 : List (String × DataW Unit) := [("math/bits.deBruijn32tab", Rows.laid_math_bits_deBruijn32tab), ("math/bits.deBruijn64tab", Rows.laid_math_bits_deBruijn64tab), ("internal/strconv.uint64pow10", Rows.laid_internal_strconv_uint64pow10), ("errors.errorType", Rows.laid_errors_errorType)]
theorem tab_of_met {W : World} (h : laidMet Tryz.prog L3 W) : TabW W :=
  Lib.tabIs_of_head (n := 20) tabG (by kernel_rfl) Tryz.underlying345 Tryz.underlying214 (by kernel_rfl) (by kernel_rfl) (show laidMet Tryz.prog [("internal/strconv.uint64pow10", Lib.tabData .u64 Lib.pow10Tab)] W from h.tail.tail)
theorem of_laid3 {W : World} (h : laidMetH Tryz.prog L3 W) : TabW W := tab_of_met h
theorem of_laid4 {W : World} (h : laidMetH Tryz.prog L4 W) : TabW W ∧ ErrT W := by
  have h' : laidMet Tryz.prog L3 W ∧ handlesMet Tryz.prog [("errors.errorType", Rows.laid_errors_errorType)] W := h
  exact ⟨tab_of_met h'.1, handle_of_laid (show laidMetH Tryz.prog [("errors.errorType", Rows.laid_errors_errorType)] W from ⟨⟨[], rfl, List.nodup_nil, fun _ _ h => by cases h⟩, h'.2⟩)⟩
def litsOf : DataW Unit → Array Value
  | .agg l => (l.map fun
    | .lit (.int k z) => Value.int k z
    | _ => undef).toArray
  | _ => #[]
noncomputable def laidWorldT (os : Os) : World :=
  let w0 := laidWorld os
  { w0 with heap := ((w0.heap.modify 2 fun
      | .cells _ t frozen => .cells (litsOf Rows.laid_math_bits_deBruijn32tab) t frozen
      | o => o).modify 3 fun
      | .cells _ t frozen => .cells (litsOf Rows.laid_math_bits_deBruijn64tab) t frozen
      | o => o).modify 1 fun
      | .cells _ t frozen => .cells (litsOf Rows.laid_internal_strconv_uint64pow10) t frozen
      | o => o }
theorem laidWorldT_met3 (os : Os) (args : Array Value) : laidMetH Tryz.prog L3 ((laidWorldT os).forCall (fun _ _ => 0) ⟨#[], args, []⟩).memory :=
  laidMetH_of_parts (laidMet_of_run3 8 (by kernel_rfl) (by kernel_rfl) (by kernel_rfl)) (by kernel_rfl)
theorem laidWorldT_met4 (os : Os) (args : Array Value) : laidMetH Tryz.prog L4 ((laidWorldT os).forCall (fun _ _ => 0) ⟨#[], args, []⟩).memory :=
  laidMetH_of_parts (laidMet_of_run3 8 (by kernel_rfl) (by kernel_rfl) (by kernel_rfl)) (by kernel_rfl)
end Go.Proofs.YtmhaahcbmdhinaaGreatDoor
namespace Go.Proofs.YtmhaahcbmdhinaaGreatDoor
open Go.ChangeShapes Go.WideShapes Go.RowKit
set_option maxRecDepth 100000
set_option linter.unusedVariables false
abbrev L6 : List (String × DataW Unit) := [("math/bits.deBruijn32tab", Rows.laid_math_bits_deBruijn32tab), ("math/bits.deBruijn64tab", Rows.laid_math_bits_deBruijn64tab), ("internal/strconv.uint64pow10", Rows.laid_internal_strconv_uint64pow10), ("errors.errorType", Rows.laid_errors_errorType), ("strconv.ErrRange", Rows.laid_strconv_ErrRange), ("strconv.ErrSyntax", Rows.laid_strconv_ErrSyntax)]
abbrev L5 : List (String × DataW Unit) := [("math/bits.deBruijn32tab", Rows.laid_math_bits_deBruijn32tab), ("math/bits.deBruijn64tab", Rows.laid_math_bits_deBruijn64tab), ("internal/strconv.uint64pow10", Rows.laid_internal_strconv_uint64pow10), ("strconv.ErrRange", Rows.laid_strconv_ErrRange), ("strconv.ErrSyntax", Rows.laid_strconv_ErrSyntax)]
theorem iface_head {P : Program} {n nm : String} {d : DataW Unit} {r : List (String × DataW Unit)} {W : World} {g : Nat} {ti : TypeId} {ms : Array (String × TypeId)} (h : laidMet P ((n, .iface nm d) :: r) W)
    (hg : P.globalNamed n = some g) (ht : (P.globals[g]?).map (·.type) = some ti) (hi : P.underlying ti = some (.interface ms)) : ∃ u v, W.cell? ⟨g, 0, none⟩ = some (.iface u v) ∧ g < W.heap.size := by
  obtain ⟨ps, ⟨g0, t0, cs0, f0, p0, q0, hg0, ht0, hv0, hd0, _, e0⟩, _, hrows⟩ := h
  obtain rfl := Option.some.inj (hg.symm.trans hg0)
  obtain rfl := Option.some.inj (ht.symm.trans ht0)
  obtain ⟨l0⟩ := cs0
  obtain ⟨_, u, v, e, _⟩ := iface_of_trod hi hd0
  have e' : l0 = [.iface u v] := e
  subst e'
  have hc : W.cell? ⟨g, 0, none⟩ = some (.iface u v) := by simpa using World.var?_cell hg0 hv0 0
  exact ⟨u, v, hc, World.block_lt_of_cell? W _ hc⟩
theorem of_laid6 {W : World} (h : laidMetH Tryz.prog L6 W) : (TabW W ∧ EvW W W.heap.size) ∧ ErrT W := by
  have h' : laidMet Tryz.prog L5 W ∧ handlesMet Tryz.prog [("errors.errorType", Rows.laid_errors_errorType)] W := h
  have ht : TabW W := Lib.tabIs_of_head (n := 20) tabG (by kernel_rfl) Tryz.underlying345 Tryz.underlying214 (by kernel_rfl) (by kernel_rfl) (show laidMet Tryz.prog (("internal/strconv.uint64pow10", Lib.tabData .u64 Lib.pow10Tab) :: [("strconv.ErrRange", Rows.laid_strconv_ErrRange), ("strconv.ErrSyntax", Rows.laid_strconv_ErrSyntax)]) W from h'.1.tail.tail)
  obtain ⟨tr, pr, cr, lr⟩ := iface_head (show laidMet Tryz.prog (("strconv.ErrRange", .iface "*errors.errorString" (.ptr (.agg [.lit (.string [118, 97, 108, 117, 101, 32, 111, 117, 116, 32, 111, 102, 32, 114, 97, 110, 103, 101])]))) :: [("strconv.ErrSyntax", Rows.laid_strconv_ErrSyntax)]) W from h'.1.tail.tail.tail) (g := 5) (by kernel_rfl) (by kernel_rfl) Tryz.underlying33
  obtain ⟨ts, ps, cs, ls⟩ := iface_head (show laidMet Tryz.prog (("strconv.ErrSyntax", .iface "*errors.errorString" (.ptr (.agg [.lit (.string [105, 110, 118, 97, 108, 105, 100, 32, 115, 121, 110, 116, 97, 120])]))) :: []) W from h'.1.tail.tail.tail.tail) (g := 4) (by kernel_rfl) (by kernel_rfl) Tryz.underlying33
  exact ⟨⟨ht, ts, ps, tr, pr, cs, cr, ls, lr⟩, handle_of_laid (show laidMetH Tryz.prog [("errors.errorType", Rows.laid_errors_errorType)] W from ⟨⟨[], rfl, List.nodup_nil, fun _ _ h => by cases h⟩, h'.2⟩)⟩
abbrev rangeS : ByteArray := { data := #[118, 97, 108, 117, 101, 32, 111, 117, 116, 32, 111, 102, 32, 114, 97, 110, 103, 101] }
abbrev syntaxS : ByteArray := { data := #[105, 110, 118, 97, 108, 105, 100, 32, 115, 121, 110, 116, 97, 120] }
noncomputable def lowS : Nat := (World.holding Tryz.prog default ⟨#[], #[], []⟩).heap.size
/-- The settled world with two blocks more, the two errors; the listed variables laid. -/
noncomputable def laidWorldS (os : Os) : World :=
  let w0 := World.holding Tryz.prog os ⟨#[.cells #[.string rangeS] 368, .cells #[.string syntaxS] 368], #[], []⟩
  { w0 with heap := (((((w0.heap.modify 0 fun
      | .cells _ t frozen => .cells #[.iface 240 (.agg #[.pointer (some ⟨6, 33, none⟩)])] t frozen
      | o => o).modify 2 fun
      | .cells _ t frozen => .cells (litsOf Rows.laid_math_bits_deBruijn32tab) t frozen
      | o => o).modify 3 fun
      | .cells _ t frozen => .cells (litsOf Rows.laid_math_bits_deBruijn64tab) t frozen
      | o => o).modify 1 fun
      | .cells _ t frozen => .cells (litsOf Rows.laid_internal_strconv_uint64pow10) t frozen
      | o => o).modify 5 fun
      | .cells _ t frozen => .cells #[.iface 366 (.pointer (some ⟨lowS, 0, none⟩))] t frozen
      | o => o).modify 4 fun
      | .cells _ t frozen => .cells #[.iface 366 (.pointer (some ⟨lowS + 1, 0, none⟩))] t frozen
      | o => o }
theorem laidWorldS_met (os : Os) (args : Array Value) : laidMetH Tryz.prog L6 ((laidWorldS os).forCall (fun _ _ => 0) ⟨#[], args, []⟩).memory :=
  laidMetH_of_parts (laidMet_of_run3 8 (by kernel_rfl) (by kernel_rfl) (by kernel_rfl)) (by kernel_rfl)
end Go.Proofs.YtmhaahcbmdhinaaGreatDoor
namespace Go.Proofs.YtmhaahcbmdhinaaGreatDoor.raftOpens
open Go.ChangeShapes Go.WideShapes Go.ChangeAt Go.RowKit Go.Joins
set_option linter.unusedVariables false
set_option linter.unusedSimpArgs false
theorem own : ownKnob Tryz.prog.godebug = none := by kernel_rfl
theorem laidOut : laidOutB Tryz.prog = true := by kernel_rfl
set_option maxRecDepth 100000 in
theorem lifted (os : Os) (started : os.Started) (H : Type) (enc : TypeId × Value → H) :
    ReturnsInHanded {} Tryz.checked os 3 .any (fun w args => (Rows.raftOpensSpec.pre enc Tryz.prog Tryz.f3 [] false w args ∧ laidMetH Tryz.prog Rows.raftOpensRow.laid w) ∧ sizedMet enc Tryz.prog Tryz.f3 (OpenSpec.ofChange Rows.raftOpensSpec) false w args)
      (Rows.raftOpensSpec.post enc Tryz.prog Tryz.f3 false true false false) := by
  refine returnsInHanded_of_change_and (C := Tryz.checked) (X := fun w _ => laidMetH Tryz.prog Rows.raftOpensRow.laid w) (fun _ _ _ hh h => h.of_heap hh) own started (by kernel_rfl) Tryz.func3
    (ChangeSpec.witness_at (enc := enc) (C := Tryz.checked) (os := os) (X := fun w _ => laidMetH Tryz.prog Rows.raftOpensRow.laid w) false (laidWorldS os) #[.int .i64 0, .int .i64 0, .agg #[.int .i64 0, .int .i64 0, .int .i64 0, .int .i64 0, .slice none 0 0, .slice none 0 0, .slice none 0 0]] 8 rfl (by kernel_rfl) (by kernel_rfl) (by kernel_rfl) (by kernel_rfl) (by kernel_rfl) (laidWorldS_met os _)) ?_
  intro W base args ds gs before hval0 hW hcnd hsz hL _
  have hval : ∀ (j : Nat) t v, Tryz.f3.params[j]? = some t → args[j]? = some v → Value.okWide Tryz.prog W .any base t v := hval0
  have hW' := hW
  obtain ⟨p, q, hA0, hV, rfl, hfz, hnd⟩ := hW
  have hA : DataW.TrodAll enc Tryz.prog W 0 (fun _ => true) true Tryz.f3.params.toList args.toList ds p := hA0
  rw [Tryz.params3] at hA hval
  obtain ⟨v0, vs0, d0, ds0, p0, q0, hargs, rfl, rfl, h0, r0⟩ := trodAll_cons hA
  obtain ⟨v1, vs1, d1, ds1, p1, q1, rfl, rfl, rfl, h1, r1⟩ := trodAll_cons r0
  obtain ⟨v2, vs2, d2, ds2, p2, q2, rfl, rfl, rfl, h2, r2⟩ := trodAll_cons r1
  obtain ⟨rfl, rfl, rfl⟩ := trodAll_nil r2
  obtain rfl : args = #[v0, v1, v2] := by cases args; simp_all
  obtain ⟨rfl, rfl⟩ := trodVars_none hV
  have k0 := h0
  have lt0 : ∀ x ∈ p0, x.block < W.heap.size := by obtain ⟨m, hm⟩ := k0; exact DataW.trod_lt m _ _ _ hm
  have ok0 := hval 0 3 v0 rfl rfl
  have k1 := h1
  have lt1 : ∀ x ∈ p1, x.block < W.heap.size := by obtain ⟨m, hm⟩ := k1; exact DataW.trod_lt m _ _ _ hm
  have ok1 := hval 1 3 v1 rfl rfl
  have k2 := h2
  have lt2 : ∀ x ∈ p2, x.block < W.heap.size := by obtain ⟨m, hm⟩ := k2; exact DataW.trod_lt m _ _ _ hm
  have ok2 := hval 2 28 v2 rfl rfl
  obtain ⟨⟨ht, hv⟩, hg⟩ := of_laid6 hL
  clear hA0 hval0 hval
  have walk : Calls Tryz.prog 3 #[v0, v1, v2] W (YesPost W) := by
    obtain ⟨z0, rfl, _, _, w0⟩ := open_int Tryz.underlying3 ok0 h0
    obtain ⟨z1, rfl, _, _, w1⟩ := open_int Tryz.underlying3 ok1 h1
    obtain ⟨cs2, rfl, _⟩ := okWide_struct Tryz.underlying28 ok2
    obtain ⟨fuel2, hf2⟩ := h2
    simp only [Value.cells] at hf2
    have szs2 := Sized.each hsz (j := 2) (t := 28) (d := d2) (by kernel_rfl) rfl
    obtain ⟨s2, hcs2, hs2, hI2⟩ := in_sv hf2 szs2
    obtain rfl : cs2 = (scell s2).toArray := by rw [← hcs2]
    exact opens_walk z0 z1 s2 W hs2 hI2 ht hv hg
  refine walk.mono fun e W' ⟨he, bel⟩ => ?_
  subst he
  exact ⟨_, rfl, _, _, _, [], _, [], hW', trodAll_mk1 (shut_bool Tryz.underlying4 _), (trodAll_cons_mk (Below.trod laidOut (by kernel_rfl) (of_decide_eq_true (by kernel_rfl)) k0 bel lt0) (trodAll_cons_mk (Below.trod laidOut (by kernel_rfl) (of_decide_eq_true (by kernel_rfl)) k1 bel lt1) (trodAll_cons_mk (Below.trod laidOut (by kernel_rfl) (of_decide_eq_true (by kernel_rfl)) k2 bel lt2) trodAll_mk0))), rfl, bel.frame _, fun h => by cases h⟩
end Go.Proofs.YtmhaahcbmdhinaaGreatDoor.raftOpens
