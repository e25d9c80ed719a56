/- Walks: the document's member, from what it kept: tollbarref13.draws, tollbarref13.New.
   Walks: the document's member: last, member, Upto, Conf.
   Walks: the document's member: Upto.
   Walk: the document's Conf. (Printed by mkr3.py.)
   What is kept fits where its copy does (cut out of lib's Kp2 by mk13.py). -/
import Derived.Test.YtmhaahcbmdhinaaGreatDoorK11
import Derived.Test.YtmhaahcbmdhinaaGreatDoorK10
import Derived.Test.YtmhaahcbmdhinaaGreatDoorK7
import Derived.Test.YtmhaahcbmdhinaaGreatDoorK27
import Derived.Test.YtmhaahcbmdhinaaGreatDoorK20
import Derived.Test.YtmhaahcbmdhinaaGreatDoorK6
import Derived.Deep.LoopGhost
import Derived.Test.YtmhaahcbmdhinaaGreatDoorK21
import Derived.Test.YtmhaahcbmdhinaaGreatDoorK9
import Derived.Deep.MidRow
namespace Go.Proofs.YtmhaahcbmdhinaaGreatDoor
open Go.RowKit
set_option maxRecDepth 100000
set_option linter.unusedVariables false
set_option linter.unusedSimpArgs false
def coreZ : Array Value := #[.int .i64 0, .int .i64 0, .int .i64 0, .int .i64 0, .slice none 0 0, .slice none 0 0, .slice none 0 0, .int .i64 0, .int .i64 0, .int .i64 0, .int .i64 0, .int .i64 0, .int .i64 0, .int .i64 0, .int .i64 0, .slice none 0 0, .slice none 0 0, .int .i64 0, .slice none 0 0]
theorem coreZ_one : coreZ.all (·.oneCell') = true := by simp [coreZ, Value.oneCell']
theorem one_set {cs : Array Value} (h : cs.all (·.oneCell') = true) (i : Nat) {v : Value} (hv : v.oneCell' = true) : (cs.setIfInBounds i v).all (·.oneCell') = true := by
  rw [Array.all_eq_true_iff_forall_mem] at h ⊢
  intro x hx
  rw [← Array.mem_toList_iff, Array.toList_setIfInBounds] at hx
  rcases List.mem_or_eq_of_mem_set hx with hx | rfl
  · exact h x (Array.mem_toList_iff.1 hx)
  · exact hv
set_option maxHeartbeats 3200000 in
theorem drawsR_any (cs : Array Value) (span draw : Int) (w : World) (hs : cs.size = 19) (h1c : cs.all (·.oneCell') = true) (h8 : cs[8]? = some (.int .i64 span)) (h1 : 2 ≤ span) (h2 : span ≤ 1000) :
    Calls Tryz.prog 44 #[.agg cs, .int .i64 draw] w (fun e w' => e = .returned (.agg ((cs.setIfInBounds 13 (.int .i64 0)).setIfInBounds 14 (.int .i64 (drw span draw)))) ∧ Below w.heap.size w w') := by
  obtain ⟨K, hK1, hK2, hK3, hK4⟩ := uint_mod draw (span.toNat + 1) (span + 1) (by omega) (by omega) (by omega)
  have hd : drw span draw = span + K := by unfold drw; rw [hK2]
  have w1 : IntKind.i64.wrap (span + 1) = span + 1 := by rw [IntKind.wrap_i64]; omega
  have w2 : IntKind.u64.wrap (span + 1) = span + 1 := by rw [IntKind.wrap_u64]; omega
  have w3 : IntKind.i64.wrap (span + K) = span + K := by rw [IntKind.wrap_i64]; omega
  have hne : ¬ span + 1 = 0 := by omega
  have w4 : IntKind.i64.wrap (K : Int) = K := by rw [IntKind.wrap_i64]; omega
  rw [hd]
  obtain ⟨W0, hW0⟩ : ∃ W0, W0 = (w.alloc (.cells cs 47)).alloc (.cells coreZ 47) := ⟨_, rfl⟩
  have b0 : Bx W0 w.heap.size cs := by subst hW0; exact (Bx.new _ _ _ rfl).alloc _
  have b9 : Bx W0 (w.heap.size + 1) coreZ := by subst hW0; exact Bx.new _ _ _ (by simp)
  have hbe : Below w.heap.size w W0 := by subst hW0; exact ((Below.refl _ _).alloc (Nat.le_refl _) _).alloc (by simp) _
  obtain ⟨v13, e13⟩ : ∃ v, cs[13]? = some v := ⟨_, Array.getElem?_eq_getElem (by omega)⟩
  obtain ⟨v14, e14⟩ : ∃ v, cs[14]? = some v := ⟨_, Array.getElem?_eq_getElem (by omega)⟩
  have c8 : W0.cell? ⟨w.heap.size, 8, none⟩ = some (.int .i64 span) := (b0.c 8).trans h8
  have c13 : W0.cell? ⟨w.heap.size, 13, none⟩ = some v13 := (b0.c 13).trans e13
  have c14 : W0.cell? ⟨w.heap.size, 14, none⟩ = some v14 := (b0.c 14).trans e14
  have f13 := b0.f 13
  have f14 := b0.f 14
  have HW := Lib.hid hW0
  have B := Lib.hid (And.intro b0 (And.intro b9 (And.intro hbe (And.intro hs h1c))))
  clear hW0 b0 b9 hbe hd hK2 e13 e14 h8 hs h1c
  go_enter Tryz.func44, Tryz.ntmps44
  go_upto_region 1 with (fail)
  have HW' := HW.out
  unfold coreZ at HW'
  rw [← HW']
  clear HW'
  go_wp2_with fail
  go_region_law (fail)
  all_goals
    obtain ⟨W5, hW5⟩ : ∃ W5, W5 = ((W0.setCell ⟨w.heap.size, 13, none⟩ (.int .i64 0)).setCell ⟨w.heap.size, 14, none⟩ (.int .i64 (span + K))).drew := ⟨_, rfl⟩
    have x5 : Bx W5 w.heap.size ((cs.setIfInBounds 13 (.int .i64 0)).setIfInBounds 14 (.int .i64 (span + K))) := by
      subst hW5
      exact ((B.out.1.set 13 _).set 14 _).drew
    have y5 : Bx W5 (w.heap.size + 1) coreZ := by
      subst hW5
      exact ((B.out.2.1.far (by simp) _).far (by simp) _).drew
    have hb5 : Below w.heap.size w W5 := by
      subst hW5
      exact ((B.out.2.2.1.setCell (Nat.le_refl _) _).setCell (Nat.le_refl _) _).drew
    have hs5 : ((cs.setIfInBounds 13 (.int .i64 0)).setIfInBounds 14 (.int .i64 (span + K))).size = 19 := by simp [B.out.2.2.2.1]
    have h15 := one_set (one_set B.out.2.2.2.2 13 (v := .int .i64 0) rfl) 14 (v := .int .i64 (span + K)) rfl
    try rw [← hW5]
    obtain ⟨cs5, hcs5⟩ : ∃ cs5, cs5 = (cs.setIfInBounds 13 (.int .i64 0)).setIfInBounds 14 (.int .i64 (span + K)) := ⟨_, rfl⟩
    rw [← hcs5] at x5 hs5 h15
    have Hc := Lib.hid hcs5
    clear hcs5
    obtain ⟨tx, hx⟩ := x5.hp
    obtain ⟨ty, hy⟩ := y5.hp
    have hz1 : ¬ w.heap.size + 1 = w.heap.size := by omega
    have Z := Lib.hid (And.intro hx (And.intro hy (And.intro hs5 (And.intro h15 hb5))))
    have hi : (Tryz.prog.info? 47).map (·.size) = some cs5.size := by rw [hs5]; kernel_rfl
    have Hi := Lib.hid hi
    clear c8 c13 c14 f13 f14 hW5 x5 y5 hx hy hs5 h15 hb5 hi B HW
    go_wp2_with (first
      | (refine wpList_load_row rfl 47 _ rfl _ rfl _ _ _ _ Z.out.1 Tryz.underlying47 rfl Hi.out ?_)
      | (refine wpList_store_row rfl 47 _ _ rfl _ _ rfl rfl _ _ Z.out.2.1 Hi.out (Z.out.2.2.1.symm ▸ rfl) Z.out.2.2.2.1 ?_))
    refine bodyPost_ret (results_cell_row rfl _ _ (w.heap.size + 1) _ cs5 (0, 0) _ rfl (setRow_heap _ _ _ _ _ _ Z.out.2.1) Tryz.underlying47 rfl Hi.out) rfl ?_
    exact ⟨by rw [Hc.out], below_setRow Z.out.2.2.2.2 (by omega) _⟩
set_option maxHeartbeats 3200000 in
/-- The document's New: whether it can be. -/
def NewRPost (W : World) (id span draw : Int) (s : Sv) (e : Ending) (w' : World) : Prop :=
  ∃ cs : Array Value, cs.size = 19 ∧ cs.all (·.oneCell') = true ∧ (s.st.may = true → cs = #[.int .i64 s.tm, .int .i64 s.vt, .int .i64 s.b, .int .i64 s.t, .slice s.A s.n s.c, .slice s.C s.nc s.cc, .slice s.S s.ns s.cs, .int .i64 id, .int .i64 span, .int .i64 0, .int .i64 0, .int .i64 s.b, .int .i64 0, .int .i64 0, .int .i64 (drw span draw), .slice none 0 0, .slice none 0 0, .int .i64 0, .slice none 0 0]) ∧ e = .returned (.tuple #[.agg cs, .int .i64 (if s.st.may = true then 0 else 1)]) ∧ Below W.heap.size W w'
set_option maxHeartbeats 3200000 in
theorem newR_ok (id span draw : Int) (s : Sv) (w : World) {ok : Nat → Prop} (h : s.At w ok) (hf : s.Fit) (h1 : 1 ≤ id) (h2 : id ≤ 64) (h3 : 2 ≤ span) (h4 : span ≤ 1000) :
    Calls Tryz.prog 14 #[.int .i64 id, .int .i64 span, s.val, .int .i64 draw] w (NewRPost w id span draw s) := by
  obtain ⟨W0, hW0⟩ : ∃ W0, W0 = (w.alloc (.cells s.cells 28)).alloc (.cells coreZ 47) := ⟨_, rfl⟩
  have b0 : Bx W0 w.heap.size s.cells := by subst hW0; exact (Bx.new _ _ _ rfl).alloc _
  have b9 : Bx W0 (w.heap.size + 1) coreZ := by subst hW0; exact Bx.new _ _ _ (by simp)
  have hbe : Below w.heap.size w W0 := by subst hW0; exact ((Below.refl _ _).alloc (Nat.le_refl _) _).alloc (by simp) _
  have hz0 : W0.heap.size = w.heap.size + 2 := by subst hW0; simp
  have a0 := h.below hbe
  have hla := lastR_any s.b s.t s.A s.n s.c s.L W0 a0.l (h.wel hf) hf.z.1
  have hma := fun W (hb : Below W0.heap.size W0 W) => mayR_any s.b s.t s.A s.n s.c s.L W (a0.l.below hb) (h.wel hf) hf.z.1
  have hca := fun W (hb : Below W0.heap.size W0 W) => cmayR_any s.C s.nc s.cc s.cf W (a0.cf.below hb) hf.z.2.1
  have hra := fun W (hb : Below W0.heap.size W0 W) => readR_any s.A s.n s.c s.L W (a0.l.below hb) (fun y hy => ⟨((a0.d y hy).1.any).below hb, (a0.d y hy).2⟩) hf.z.1
  obtain ⟨q, hq⟩ : ∃ q, lmay s.b s.t (s.L.map en) = q := ⟨_, rfl⟩
  obtain ⟨y, hy⟩ : ∃ y, lstB s.t (s.L.map en) = y := ⟨_, rfl⟩
  have hS : s.st.may = (q && cmay s.cf && rdok s.L && decide (y ≤ s.tm) && decide (s.tm ≤ 1099511627776) && decide (0 ≤ s.vt) && decide (s.vt ≤ 64)) := by
    show St.may ⟨s.tm, s.vt, s.b, s.t, s.L.map en, s.cf, s.sn⟩ = _
    rw [← smay_st, smay, hq, hy]
  have hma' : ∀ W, Below W0.heap.size W0 W → Calls Tryz.prog 41 #[.agg #[.int .i64 s.b, .int .i64 s.t, .slice s.A s.n s.c]] W (BoolPost W q) := fun W hb => by rw [← hq]; exact hma W hb
  rw [hq, hy] at hla
  generalize lstA s.b (s.L.map en) = x at hla
  generalize cmay s.cf = p at hca hS
  generalize rdok s.L = r at hra hS
  obtain ⟨c0, c1, c2, c3, c4, c5, c6⟩ := Sv.c7 b0
  have g1 : decide (id < 1) = false := decide_eq_false (by omega)
  have g2 : decide (64 < id) = false := decide_eq_false (by omega)
  have g3 : decide (span < 2) = false := decide_eq_false (by omega)
  have g4 : decide (1000 < span) = false := decide_eq_false (by omega)
  have HW := Lib.hid hW0
  have B := Lib.hid (And.intro b0 (And.intro b9 (And.intro hbe hz0)))
  have Hla := Lib.hid hla
  have Hma := Lib.hid hma'
  have Hca := Lib.hid hca
  have Hra := Lib.hid hra
  have HS := Lib.hid hS
  clear hW0 b0 b9 hbe hz0 a0 hla hma hma' hca hra hS hq hy h
  unfold Sv.val stA
  go_enter Tryz.func14, Tryz.ntmps14
  go_upto_region 1 with (fail)
  have HW' := HW.out
  unfold Sv.cells coreZ at HW'
  rw [← HW']
  clear HW'
  cases q
  · go_wp2_with fail
    refine Hla.out.mono ?_
    rintro e w1 ⟨rfl, hb1⟩
    clear c0 c1 c2 c3 c4 c5 c6
    obtain ⟨c0, c1, c2, c3, c4, c5, c6⟩ := Sv.c7 (B.out.1.below hb1)
    go_wp2_with fail
    refine (Hma.out w1 hb1).mono ?_
    rintro e w2 ⟨rfl, hb2⟩
    have K2 := Lib.hid (hb1.trans (hb2.mono hb1.size))
    clear c0 c1 c2 c3 c4 c5 c6 hb1 hb2
    obtain ⟨ty, hy⟩ := (B.out.2.1.below K2.out).hp
    have hno : s.st.may = false := by rw [HS.out]; simp
    have Hno := Lib.hid hno
    have KB := Lib.hid (K2.out)
    have Hy := Lib.hid hy
    clear hy hno
    go_upto_region 3 with (fail)
    refine wp_region_lit ?_
    refine wpList_build rfl _ _ rfl (by kernel_rfl) ?_
    refine wpList_store_row rfl 47 _ _ rfl (w.heap.size + 1) coreZ (by rfl) (by kernel_rfl) _ _ Hy.out (by kernel_rfl) rfl coreZ_one ?_
    go_wp2_with fail
    refine bodyPost_ret (results_row_tmp rfl _ _ (w.heap.size + 1) _ coreZ (0, 0) _ rfl (setRow_heap _ _ _ _ _ _ Hy.out) Tryz.underlying47 rfl (by kernel_rfl)) rfl ?_
    refine ⟨coreZ, rfl, coreZ_one, fun h => (by rw [Hno.out] at h; cases h), ?_, ?_⟩
    · rw [if_neg (by rw [Hno.out]; decide)]; rfl
    · exact below_setRow (B.out.2.2.1.trans (KB.out.mono B.out.2.2.1.size)) (by omega) _
  · go_wp2_with fail
    refine Hla.out.mono ?_
    rintro e w1 ⟨rfl, hb1⟩
    clear c0 c1 c2 c3 c4 c5 c6
    obtain ⟨c0, c1, c2, c3, c4, c5, c6⟩ := Sv.c7 (B.out.1.below hb1)
    rw [if_pos (by trivial), if_pos (by trivial)]
    go_wp2_with fail
    refine (Hma.out w1 hb1).mono ?_
    rintro e w2 ⟨rfl, hb2⟩
    have K2 := Lib.hid (hb1.trans (hb2.mono hb1.size))
    clear c0 c1 c2 c3 c4 c5 c6 hb1 hb2
    obtain ⟨c0, c1, c2, c3, c4, c5, c6⟩ := Sv.c7 (B.out.1.below K2.out)
    go_wp2_with fail
    refine (Hca.out w2 K2.out).mono ?_
    rintro e w3 ⟨rfl, hb3⟩
    have K3 := Lib.hid (K2.out.trans (hb3.mono K2.out.size))
    clear c0 c1 c2 c3 c4 c5 c6 hb3
    obtain ⟨c0, c1, c2, c3, c4, c5, c6⟩ := Sv.c7 (B.out.1.below K3.out)
    cases p
    · skip
      obtain ⟨ty, hy⟩ := (B.out.2.1.below K3.out).hp
      have hno : s.st.may = false := by rw [HS.out]; simp
      have Hno := Lib.hid hno
      have KB := Lib.hid (K3.out)
      have Hy := Lib.hid hy
      clear hy hno
      go_upto_region 3 with (fail)
      refine wp_region_lit ?_
      refine wpList_build rfl _ _ rfl (by kernel_rfl) ?_
      refine wpList_store_row rfl 47 _ _ rfl (w.heap.size + 1) coreZ (by rfl) (by kernel_rfl) _ _ Hy.out (by kernel_rfl) rfl coreZ_one ?_
      go_wp2_with fail
      refine bodyPost_ret (results_row_tmp rfl _ _ (w.heap.size + 1) _ coreZ (0, 0) _ rfl (setRow_heap _ _ _ _ _ _ Hy.out) Tryz.underlying47 rfl (by kernel_rfl)) rfl ?_
      refine ⟨coreZ, rfl, coreZ_one, fun h => (by rw [Hno.out] at h; cases h), ?_, ?_⟩
      · rw [if_neg (by rw [Hno.out]; decide)]; rfl
      · exact below_setRow (B.out.2.2.1.trans (KB.out.mono B.out.2.2.1.size)) (by omega) _
    go_wp2_with fail
    refine (Hra.out w3 K3.out).mono ?_
    rintro e w4 ⟨rfl, hb4⟩
    have K4 := Lib.hid (K3.out.trans (hb4.mono K3.out.size))
    clear c0 c1 c2 c3 c4 c5 c6 hb4
    obtain ⟨c0, c1, c2, c3, c4, c5, c6⟩ := Sv.c7 (B.out.1.below K4.out)
    cases r
    · skip
      obtain ⟨ty, hy⟩ := (B.out.2.1.below K4.out).hp
      have hno : s.st.may = false := by rw [HS.out]; simp
      have Hno := Lib.hid hno
      have KB := Lib.hid (K4.out)
      have Hy := Lib.hid hy
      clear hy hno
      go_upto_region 3 with (fail)
      refine wp_region_lit ?_
      refine wpList_build rfl _ _ rfl (by kernel_rfl) ?_
      refine wpList_store_row rfl 47 _ _ rfl (w.heap.size + 1) coreZ (by rfl) (by kernel_rfl) _ _ Hy.out (by kernel_rfl) rfl coreZ_one ?_
      go_wp2_with fail
      refine bodyPost_ret (results_row_tmp rfl _ _ (w.heap.size + 1) _ coreZ (0, 0) _ rfl (setRow_heap _ _ _ _ _ _ Hy.out) Tryz.underlying47 rfl (by kernel_rfl)) rfl ?_
      refine ⟨coreZ, rfl, coreZ_one, fun h => (by rw [Hno.out] at h; cases h), ?_, ?_⟩
      · rw [if_neg (by rw [Hno.out]; decide)]; rfl
      · exact below_setRow (B.out.2.2.1.trans (KB.out.mono B.out.2.2.1.size)) (by omega) _
    by_cases k1 : y ≤ s.tm
    · by_cases k2 : s.tm ≤ 1099511627776
      · by_cases k3 : 0 ≤ s.vt
        · by_cases k4 : s.vt ≤ 64
          · have hyes : s.st.may = true := by rw [HS.out]; simp [k1, k2, k3, k4]
            have Hyes := Lib.hid hyes
            clear hyes
            have k1d : decide (s.tm < y) = false := decide_eq_false (by omega)
            have k2d : decide (1099511627776 < s.tm) = false := decide_eq_false (by omega)
            have k3d : decide (s.vt < 0) = false := decide_eq_false (by omega)
            have k4d : decide (64 < s.vt) = false := decide_eq_false (by omega)
            go_upto_region 4 with (fail)
            go_wp2_with fail
            refine (drawsR_any #[.int .i64 s.tm, .int .i64 s.vt, .int .i64 s.b, .int .i64 s.t, .slice s.A s.n s.c, .slice s.C s.nc s.cc, .slice s.S s.ns s.cs, .int .i64 id, .int .i64 span, .int .i64 0, .int .i64 0, .int .i64 s.b, .int .i64 0, .int .i64 0, .int .i64 0, .slice none 0 0, .slice none 0 0, .int .i64 0, .slice none 0 0] span draw w4 rfl (by simp [Value.oneCell']) rfl h3 h4).mono ?_
            rintro e w5 ⟨rfl, hb5⟩
            have K5 := Lib.hid (K4.out.trans (hb5.mono K4.out.size))
            obtain ⟨ty, hy⟩ := (B.out.2.1.below K5.out).hp
            have Hy := Lib.hid hy
            obtain ⟨cs6, hcs6⟩ : ∃ cs6 : Array Value, cs6 = #[.int .i64 s.tm, .int .i64 s.vt, .int .i64 s.b, .int .i64 s.t, .slice s.A s.n s.c, .slice s.C s.nc s.cc, .slice s.S s.ns s.cs, .int .i64 id, .int .i64 span, .int .i64 0, .int .i64 0, .int .i64 s.b, .int .i64 0, .int .i64 0, .int .i64 (drw span draw), .slice none 0 0, .slice none 0 0, .int .i64 0, .slice none 0 0] := ⟨_, rfl⟩
            have hs6 : cs6.size = 19 := by rw [hcs6]; rfl
            have h16 : cs6.all (·.oneCell') = true := by rw [hcs6]; simp [Value.oneCell']
            have hi6 : (Tryz.prog.info? 47).map (·.size) = some cs6.size := by rw [hs6]; kernel_rfl
            have H6 := Lib.hid (And.intro hcs6 (And.intro hs6 (And.intro h16 hi6)))
            rw [show ((#[Value.int .i64 s.tm, .int .i64 s.vt, .int .i64 s.b, .int .i64 s.t, .slice s.A s.n s.c, .slice s.C s.nc s.cc, .slice s.S s.ns s.cs, .int .i64 id, .int .i64 span, .int .i64 0, .int .i64 0, .int .i64 s.b, .int .i64 0, .int .i64 0, .int .i64 0, .slice none 0 0, .slice none 0 0, .int .i64 0, .slice none 0 0].setIfInBounds 13 (.int .i64 0)).setIfInBounds 14 (.int .i64 (drw span draw))) = cs6 from hcs6.symm]
            dsimp only
            clear hcs6 hs6 h16 hi6 hy c0 c1 c2 c3 c4 c5 c6
            go_wp2_with (refine wpList_store_row rfl 47 _ _ rfl _ _ rfl rfl _ _ Hy.out H6.out.2.2.2 (H6.out.2.1.symm ▸ rfl) H6.out.2.2.1 ?_)
            refine bodyPost_ret (results_row_tmp rfl _ _ (w.heap.size + 1) _ cs6 (0, 0) _ rfl (setRow_heap _ _ _ _ _ _ Hy.out) Tryz.underlying47 rfl H6.out.2.2.2) rfl ?_
            refine ⟨cs6, H6.out.2.1, H6.out.2.2.1, fun _ => H6.out.1, ?_, ?_⟩
            · rw [if_pos Hyes.out]; rfl
            · exact below_setRow (B.out.2.2.1.trans (K5.out.mono B.out.2.2.1.size)) (by omega) _
          · have h4d : decide (64 < s.vt) = true := decide_eq_true (by omega)
            obtain ⟨ty, hy⟩ := (B.out.2.1.below K4.out).hp
            have hno : s.st.may = false := by rw [HS.out]; simp [k4]
            have Hno := Lib.hid hno
            have KB := Lib.hid (K4.out)
            have Hy := Lib.hid hy
            clear hy hno
            go_upto_region 3 with (fail)
            refine wp_region_lit ?_
            refine wpList_build rfl _ _ rfl (by kernel_rfl) ?_
            refine wpList_store_row rfl 47 _ _ rfl (w.heap.size + 1) coreZ (by rfl) (by kernel_rfl) _ _ Hy.out (by kernel_rfl) rfl coreZ_one ?_
            go_wp2_with fail
            refine bodyPost_ret (results_row_tmp rfl _ _ (w.heap.size + 1) _ coreZ (0, 0) _ rfl (setRow_heap _ _ _ _ _ _ Hy.out) Tryz.underlying47 rfl (by kernel_rfl)) rfl ?_
            refine ⟨coreZ, rfl, coreZ_one, fun h => (by rw [Hno.out] at h; cases h), ?_, ?_⟩
            · rw [if_neg (by rw [Hno.out]; decide)]; rfl
            · exact below_setRow (B.out.2.2.1.trans (KB.out.mono B.out.2.2.1.size)) (by omega) _
        · have h3d : decide (s.vt < 0) = true := decide_eq_true (by omega)
          obtain ⟨ty, hy⟩ := (B.out.2.1.below K4.out).hp
          have hno : s.st.may = false := by rw [HS.out]; simp [k3]
          have Hno := Lib.hid hno
          have KB := Lib.hid (K4.out)
          have Hy := Lib.hid hy
          clear hy hno
          go_upto_region 3 with (fail)
          refine wp_region_lit ?_
          refine wpList_build rfl _ _ rfl (by kernel_rfl) ?_
          refine wpList_store_row rfl 47 _ _ rfl (w.heap.size + 1) coreZ (by rfl) (by kernel_rfl) _ _ Hy.out (by kernel_rfl) rfl coreZ_one ?_
          go_wp2_with fail
          refine bodyPost_ret (results_row_tmp rfl _ _ (w.heap.size + 1) _ coreZ (0, 0) _ rfl (setRow_heap _ _ _ _ _ _ Hy.out) Tryz.underlying47 rfl (by kernel_rfl)) rfl ?_
          refine ⟨coreZ, rfl, coreZ_one, fun h => (by rw [Hno.out] at h; cases h), ?_, ?_⟩
          · rw [if_neg (by rw [Hno.out]; decide)]; rfl
          · exact below_setRow (B.out.2.2.1.trans (KB.out.mono B.out.2.2.1.size)) (by omega) _
      · have h2d : decide (1099511627776 < s.tm) = true := decide_eq_true (by omega)
        obtain ⟨ty, hy⟩ := (B.out.2.1.below K4.out).hp
        have hno : s.st.may = false := by rw [HS.out]; simp [k2]
        have Hno := Lib.hid hno
        have KB := Lib.hid (K4.out)
        have Hy := Lib.hid hy
        clear hy hno
        go_upto_region 3 with (fail)
        refine wp_region_lit ?_
        refine wpList_build rfl _ _ rfl (by kernel_rfl) ?_
        refine wpList_store_row rfl 47 _ _ rfl (w.heap.size + 1) coreZ (by rfl) (by kernel_rfl) _ _ Hy.out (by kernel_rfl) rfl coreZ_one ?_
        go_wp2_with fail
        refine bodyPost_ret (results_row_tmp rfl _ _ (w.heap.size + 1) _ coreZ (0, 0) _ rfl (setRow_heap _ _ _ _ _ _ Hy.out) Tryz.underlying47 rfl (by kernel_rfl)) rfl ?_
        refine ⟨coreZ, rfl, coreZ_one, fun h => (by rw [Hno.out] at h; cases h), ?_, ?_⟩
        · rw [if_neg (by rw [Hno.out]; decide)]; rfl
        · exact below_setRow (B.out.2.2.1.trans (KB.out.mono B.out.2.2.1.size)) (by omega) _
    · have h1d : decide (s.tm < y) = true := decide_eq_true (by omega)
      obtain ⟨ty, hy⟩ := (B.out.2.1.below K4.out).hp
      have hno : s.st.may = false := by rw [HS.out]; simp [k1]
      have Hno := Lib.hid hno
      have KB := Lib.hid (K4.out)
      have Hy := Lib.hid hy
      clear hy hno
      go_upto_region 3 with (fail)
      refine wp_region_lit ?_
      refine wpList_build rfl _ _ rfl (by kernel_rfl) ?_
      refine wpList_store_row rfl 47 _ _ rfl (w.heap.size + 1) coreZ (by rfl) (by kernel_rfl) _ _ Hy.out (by kernel_rfl) rfl coreZ_one ?_
      go_wp2_with fail
      refine bodyPost_ret (results_row_tmp rfl _ _ (w.heap.size + 1) _ coreZ (0, 0) _ rfl (setRow_heap _ _ _ _ _ _ Hy.out) Tryz.underlying47 rfl (by kernel_rfl)) rfl ?_
      refine ⟨coreZ, rfl, coreZ_one, fun h => (by rw [Hno.out] at h; cases h), ?_, ?_⟩
      · rw [if_neg (by rw [Hno.out]; decide)]; rfl
      · exact below_setRow (B.out.2.2.1.trans (KB.out.mono B.out.2.2.1.size)) (by omega) _
end Go.Proofs.YtmhaahcbmdhinaaGreatDoor
namespace Go.Proofs.YtmhaahcbmdhinaaGreatDoor
open Go.RowKit
set_option maxRecDepth 100000
set_option linter.unusedVariables false
set_option linter.unusedSimpArgs false
/-- The document's member, as a value: what it keeps, its numbers, its votes, peers and box. -/
def coreR (s : Sv) (id span role leader commit round gone wait : Int) (V P : Value) (key : Int) (H : Value) : Array Value :=
  #[.int .i64 s.tm, .int .i64 s.vt, .int .i64 s.b, .int .i64 s.t, .slice s.A s.n s.c, .slice s.C s.nc s.cc, .slice s.S s.ns s.cs, .int .i64 id, .int .i64 span, .int .i64 role, .int .i64 leader, .int .i64 commit, .int .i64 round, .int .i64 gone, .int .i64 wait, V, P, .int .i64 key, H]
section
variable (s : Sv) (id span role leader commit round gone wait : Int) (V P : Value) (key : Int) (H : Value) (w : World) {ok : Nat → Prop} (h : s.At w ok) (hf : s.Fit) (hm : s.st.may = true)
set_option maxHeartbeats 3200000 in
include h hf hm in
theorem rlast_any : Calls Tryz.prog 82 #[.agg (coreR s id span role leader commit round gone wait V P key H)] w (fun e w' => e = .returned (.int .i64 (lstA s.b (s.L.map en))) ∧ Below w.heap.size w w') := by
  obtain ⟨W0, hW0⟩ : ∃ W0, W0 = w.alloc (.cells (coreR s id span role leader commit round gone wait V P key H) 47) := ⟨_, rfl⟩
  have b0 : Bx W0 w.heap.size (coreR s id span role leader commit round gone wait V P key H) := by subst hW0; exact Bx.new _ _ _ rfl
  have hb0 : Below w.heap.size w W0 := by subst hW0; exact (Below.refl _ _).alloc (Nat.le_refl _) _
  have hl := lastR_any s.b s.t s.A s.n s.c s.L W0 (h.below hb0).l (h.wel hf) hf.z.1
  have hlm : lmay s.b s.t (s.L.map en) = true := (St.may_iff hm).1
  rw [hlm, if_pos rfl, if_pos rfl] at hl
  have c2 : W0.cell? ⟨w.heap.size, 2, none⟩ = some (.int .i64 s.b) := b0.c 2
  have c3 : W0.cell? ⟨w.heap.size, 3, none⟩ = some (.int .i64 s.t) := b0.c 3
  have c4 : W0.cell? ⟨w.heap.size, 4, none⟩ = some (.slice s.A s.n s.c) := b0.c 4
  have Hl := Lib.hid hl
  have HW := Lib.hid hW0
  have B := Lib.hid hb0
  clear h hf hm b0 hb0 hl hlm hW0
  unfold coreR at HW ⊢
  go_enter Tryz.func82, Tryz.ntmps82
  go_upto_region 1 with (fail)
  rw [← HW.out]
  go_wp2_with fail
  refine Hl.out.mono ?_
  rintro e w1 ⟨rfl, hb1⟩
  go_wp2_with fail
  go_ret
  exact ⟨rfl, B.out.trans (hb1.mono B.out.size)⟩
def MemR (W : World) (L : List Er) (u : Int) (e : Ending) (w' : World) : Prop := ∃ z : Int, e = .returned (.int .i64 z) ∧ ((z = -1 ∧ L.reverse.find? (mch u) = none) ∨ ∃ (k : Nat) (x : Er), z = k ∧ L[k]? = some x ∧ L.reverse.find? (mch u) = some x) ∧ Below W.heap.size W w'
set_option maxHeartbeats 3200000 in
include h hf in
theorem rmember_any (u : Int) : Calls Tryz.prog 81 #[.agg (coreR s id span role leader commit round gone wait V P key H), .int .i64 u] w (MemR w s.L u) := by
  obtain ⟨W0, hW0⟩ : ∃ W0, W0 = w.alloc (.cells (coreR s id span role leader commit round gone wait V P key H) 47) := ⟨_, rfl⟩
  have b0 : Bx W0 w.heap.size (coreR s id span role leader commit round gone wait V P key H) := by subst hW0; exact Bx.new _ _ _ rfl
  have hb0 : Below w.heap.size w W0 := by subst hW0; exact (Below.refl _ _).alloc (Nat.le_refl _) _
  have rl := (h.below hb0).l
  have hn := hf.z.1
  have c4 : W0.cell? ⟨w.heap.size, 4, none⟩ = some (.slice s.A s.n s.c) := b0.c 4
  unfold coreR at hW0 ⊢
  obtain ⟨sA, hsA⟩ : ∃ sA, sA = s.A := ⟨_, rfl⟩
  rw [← hsA] at hW0 rl c4 ⊢
  have HW := Lib.hid hW0
  have B := Lib.hid (And.intro hb0 rl)
  clear h hf b0 hb0 hW0 rl hsA
  go_enter Tryz.func81, Tryz.ntmps81
  go_upto_region 1 with (fail)
  rw [← HW.out]
  go_wp2_with fail
  go_loopg [5, 6] s.n (fun gm s5 s6 wr => ∃ (j : Nat) (z : Int), gm = s.n - j ∧ j ≤ s.n ∧ s6 = .int .i64 j ∧ s5 = .int .i64 z ∧ ((z = -1 ∧ (s.L.take j).reverse.find? (mch u) = none) ∨ ∃ (k : Nat) (x : Er), z = k ∧ s.L[k]? = some x ∧ (s.L.take j).reverse.find? (mch u) = some x) ∧ wr = W0)
  case atStart => exact ⟨0, -1, by omega, by omega, rfl, rfl, .inl ⟨rfl, rfl⟩, rfl⟩
  case round =>
    obtain ⟨j, z, hm', hj, rfl, rfl, hz, rfl⟩ := hrel
    have Hm := Lib.hid (And.intro hm' hz)
    clear hm' hz
    by_cases hlt : j < s.n
    · have hltI : decide ((j : Int) < (s.n : Int)) = true := decide_eq_true (by omega)
      obtain ⟨b, o, x, rfl, hb, hbl, hx, d0, d1, d2, d3⟩ := er_cells B.out.2 hlt
      have htk : (s.L.take (j + 1)).reverse = x :: (s.L.take j).reverse := by rw [List.take_add_one, hx]; simp
      have X := Lib.hid (And.intro hx htk)
      clear hx htk
      by_cases e1 : x.c = 2
      · have e1' : (x.c == 2) = true := by simp [e1]
        by_cases e2 : x.a ≤ u
        · have e2' : decide (x.a ≤ u) = true := decide_eq_true e2
          go_wp2_with fail
          go_roundg (s.n - (j + 1))
          case measure => have := Hm.out.1; omega
          case rel =>
            refine ⟨j + 1, j, rfl, by omega, by go_num, rfl, .inr ⟨j, x, rfl, X.out.1, ?_⟩, rfl⟩
            rw [X.out.2, List.find?_cons]
            have : mch u x = true := by simp [mch, e1, e2]
            rw [this]
        · have e2' : decide (x.a ≤ u) = false := decide_eq_false e2
          go_wp2_with fail
          go_roundg (s.n - (j + 1))
          case measure => have := Hm.out.1; omega
          case rel =>
            refine ⟨j + 1, z, rfl, by omega, by go_num, rfl, ?_, rfl⟩
            rw [X.out.2, List.find?_cons]
            have : mch u x = false := by simp [mch, e1, e2']
            rw [this]
            exact Hm.out.2
      · have e1' : (x.c == 2) = false := by simp [e1]
        go_wp2_with fail
        go_roundg (s.n - (j + 1))
        case measure => have := Hm.out.1; omega
        case rel =>
          refine ⟨j + 1, z, rfl, by omega, by go_num, rfl, ?_, rfl⟩
          rw [X.out.2, List.find?_cons]
          have : mch u x = false := by simp [mch, e1]
          rw [this]
          exact Hm.out.2
    · have hltI : decide ((j : Int) < (s.n : Int)) = false := decide_eq_false (by omega)
      obtain rfl : j = s.n := by omega
      go_wp2_with fail
      go_ret
      have hl := B.out.2.flen ecell_len (by omega)
      have hz := Hm.out.2
      rw [List.take_of_length_le (by omega)] at hz
      exact ⟨z, rfl, hz, B.out.1⟩
end
end Go.Proofs.YtmhaahcbmdhinaaGreatDoor
namespace Go.Proofs.YtmhaahcbmdhinaaGreatDoor
open Go.RowKit
set_option maxRecDepth 100000
set_option linter.unusedVariables false
set_option linter.unusedSimpArgs false
/-- The conf of the entries up to an index, of what a member keeps. -/
def St.upto (s : St) (ix : Int) : List Int := match memE s.l ix with
  | none => s.cf
  | some x => (confD x.d).getD []
theorem Bx.range {W : World} {g : Nat} {cs : List Value} (h : Bx W g cs.toArray) : W.rangeAt g 0 cs := fun j v hv => by
  rw [Nat.zero_add, h.c j]
  simpa using hv
def CfPost (W : World) (l : List Int) (e : Ending) (w' : World) : Prop := ∃ A n c, e = .returned (.slice A n c) ∧ Rd w' T 1 A n (ii l) ∧ n ≤ 1000000 ∧ Below W.heap.size W w'
section
variable (s : Sv) (id span role leader commit round gone wait : Int) (V P : Value) (key : Int) (H : Value) (w : World) {ok : Nat → Prop} (h : s.At w ok) (hf : s.Fit) (hm : s.st.may = true)
set_option maxHeartbeats 6400000 in
include h hf hm in
theorem rupto_any (u : Int) : Calls Tryz.prog 83 #[.agg (coreR s id span role leader commit round gone wait V P key H), .int .i64 u] w (CfPost w (s.st.upto u)) := by
  have hmm := hm
  clear hmm
  obtain ⟨W0, hW0⟩ : ∃ W0, W0 = w.alloc (.cells (coreR s id span role leader commit round gone wait V P key H) 47) := ⟨_, rfl⟩
  have b0 : Bx W0 w.heap.size (coreR s id span role leader commit round gone wait V P key H) := by subst hW0; exact Bx.new _ _ _ rfl
  have hb0 : Below w.heap.size w W0 := by subst hW0; exact (Below.refl _ _).alloc (Nat.le_refl _) _
  have hmb := rmember_any s id span role leader commit round gone wait V P key H W0 (h.below hb0) hf u
  have hu : s.st.upto u = match s.L.reverse.find? (mch u) with
      | none => s.cf
      | some x => (confD x.d).getD [] := by
    unfold St.upto
    show (match memE (s.L.map en) u with | none => s.cf | some x => (confD x.d).getD []) = _
    rw [memE_er]
    cases s.L.reverse.find? (mch u) <;> rfl
  have hat : ∀ W', Below W0.heap.size W0 W' → s.At W' T := fun W' hb => ((h.below hb0).below hb).any
  have hdc := fun x (hx : x ∈ s.L) W' (hb : Below W0.heap.size W0 W') => cdecR_any x.A x.n x.m x.d W' ((((h.below hb0).below hb).d x hx).1) ((((h.below hb0).below hb).d x hx).2.1) ((((h.below hb0).below hb).d x hx).2.2)
  have hcells : ∀ W', Below W0.heap.size W0 W' → W'.cell? ⟨w.heap.size, 4, none⟩ = some (.slice s.A s.n s.c) ∧ W'.cell? ⟨w.heap.size, 5, none⟩ = some (.slice s.C s.nc s.cc) := fun W' hb => ⟨(b0.below hb).c 4, (b0.below hb).c 5⟩
  have hn := hf.z
  have hmemb : ∀ x, s.L.reverse.find? (mch u) = some x → x ∈ s.L := fun x hx => List.mem_reverse.1 (List.mem_of_find?_eq_some hx)
  have hrg : W0.rangeAt w.heap.size 0 (coreR s id span role leader commit round gone wait V P key H).toList := Bx.range b0
  have Hrg := Lib.hid hrg
  have HW := Lib.hid hW0
  clear hrg
  have B := Lib.hid (And.intro hb0 (And.intro hu (And.intro hat (And.intro hdc (And.intro hcells hmemb)))))
  have Hmb := Lib.hid hmb
  clear h hf b0 hb0 hW0 hm hmb hu hat hdc hcells hmemb
  unfold coreR at HW Hmb Hrg ⊢
  go_enter Tryz.func83, Tryz.ntmps83
  go_upto_region 1 with (fail)
  rw [← HW.out]
  refine wp_region_lit ?_
  refine wpList_load_mid rfl _ _ rfl _ _ rfl _ _ Hrg.out Tryz.underlying47 rfl rfl ?_
  go_wp2_with fail
  refine Hmb.out.mono ?_
  rintro e w1 ⟨z, rfl, hz, hb1⟩
  obtain ⟨c4, c5⟩ := B.out.2.2.2.2.1 w1 hb1
  have B1 := Lib.hid hb1
  clear hb1
  rcases hz with ⟨rfl, hz⟩ | ⟨k, x, rfl, hkx, hz⟩
  · go_wp2_with fail
    go_ret
    rw [B.out.2.1, hz]
    exact ⟨_, _, _, rfl, (B.out.2.2.1 w1 B1.out).cf, hn.2.1, B.out.1.trans (B1.out.mono B.out.1.size)⟩
  · have hx := B.out.2.2.2.2.2 x hz
    have hks : k < s.n := by
      have := (B.out.2.2.1 w1 B1.out).l.flen ecell_len (by omega)
      have h2 := List.getElem?_eq_some_iff.1 hkx
      obtain ⟨h2, _⟩ := h2
      omega
    have hkI : decide ((k : Int) < 0) = false := decide_eq_false (by omega)
    have hl := (B.out.2.2.1 w1 B1.out).l
    obtain ⟨sA, hsA⟩ : ∃ sA, sA = s.A := ⟨_, rfl⟩
    rw [← hsA] at hl c4
    clear hsA
    obtain ⟨b, o, y, rfl, _, _, hy, d0, d1, d2, d3⟩ := er_cells hl hks
    obtain rfl : y = x := by rw [hkx] at hy; injection hy with e; exact e.symm
    have Hdc := Lib.hid (B.out.2.2.2.1 y hx w1 B1.out)
    have Z := Lib.hid hz
    clear hl hz hy hkx
    go_wp2_with fail
    refine Hdc.out.mono ?_
    intro e w2 h2
    obtain ⟨q2, hq2⟩ : ∃ q, confD y.d = q := ⟨_, rfl⟩
    rw [hq2] at h2
    have hqz : s.st.upto u = q2.getD [] := by rw [B.out.2.1, Z.out, ← hq2]
    cases q2 with
    | none =>
      obtain ⟨rfl, hb2⟩ := h2
      have B2 := Lib.hid hb2
      clear hb2
      go_wp2_with fail
      go_ret
      rw [hqz]
      exact ⟨_, _, _, rfl, Rd.none_, by omega, B.out.1.trans ((B1.out.trans (B2.out.mono B1.out.size)).mono B.out.1.size)⟩
    | some l =>
      obtain ⟨A2, n2, c2, rfl, o2, hb2⟩ := h2
      have B2 := Lib.hid hb2
      have hl := hq2
      clear hb2
      go_wp2_with fail
      go_ret
      rw [hqz]
      have hlen : n2 ≤ 7 := by
        have h1 := confD_may' hl
        have h3 := (Rd.of_own o2).len
        simp only [ii, List.length_map] at h3
        have h4 := cmay_small h1
        omega
      exact ⟨_, _, _, rfl, (Rd.of_own o2).any, by omega, B.out.1.trans ((B1.out.trans (B2.out.mono B1.out.size)).mono B.out.1.size)⟩
end
end Go.Proofs.YtmhaahcbmdhinaaGreatDoor
namespace Go.Proofs.YtmhaahcbmdhinaaGreatDoor
open Go.RowKit
set_option maxRecDepth 100000
set_option linter.unusedVariables false
set_option linter.unusedSimpArgs false
theorem ld_exec {P : Program} {a : Act} {op : Oper} {w : World} (ty : TypeId) (x : Operand) (ho : op.op = .load ty x) (b o : Nat) (hx : a.eval x = .pointer (some ⟨b, o, none⟩)) (cs : List Value) (d : TypeDesc) (hc : w.rangeAt b o cs) (hu : P.underlying ty = some d) (hd : d.isRow = true) (hi : (P.info? ty).map (·.size) = some cs.length) :
    (execOp a.eval op).run P w = .ok (.value (.agg cs.toArray)) w := by
  unfold execOp
  simp only [ho, hx, Instr.loadAt, Instr.sureAddr, Sem.run_bind, Sem.run_pure, Result.andThen_ok, run_loadVar_mid w b o ty cs d hc hu hd hi]
def St.conf (s : St) : List Int := s.upto (lstA s.b s.l)
section
variable (s : Sv) (id span role leader commit round gone wait : Int) (V P : Value) (key : Int) (H : Value) (w : World) {ok : Nat → Prop} (h : s.At w ok) (hf : s.Fit) (hm : s.st.may = true)
set_option maxHeartbeats 6400000 in
include h hf hm in
theorem rconf_any : Calls Tryz.prog 49 #[.agg (coreR s id span role leader commit round gone wait V P key H)] w (CfPost w s.st.conf) := by
  obtain ⟨W0, hW0⟩ : ∃ W0, W0 = w.alloc (.cells (coreR s id span role leader commit round gone wait V P key H) 47) := ⟨_, rfl⟩
  have b0 : Bx W0 w.heap.size (coreR s id span role leader commit round gone wait V P key H) := by subst hW0; exact Bx.new _ _ _ rfl
  have hb0 : Below w.heap.size w W0 := by subst hW0; exact (Below.refl _ _).alloc (Nat.le_refl _) _
  have hrg : ∀ W', Below W0.heap.size W0 W' → W'.rangeAt w.heap.size 0 (coreR s id span role leader commit round gone wait V P key H).toList := fun W' hb => Bx.range (b0.below hb)
  have hls := fun W' (hb : Below W0.heap.size W0 W') => rlast_any s id span role leader commit round gone wait V P key H W' ((h.below hb0).below hb) hf hm
  have hup := fun W' (hb : Below W0.heap.size W0 W') => rupto_any s id span role leader commit round gone wait V P key H W' ((h.below hb0).below hb) hf hm (lstA s.b (s.L.map en))
  have HW := Lib.hid hW0
  have Hrg := Lib.hid hrg
  have B := Lib.hid hb0
  have Hls := Lib.hid hls
  have Hup := Lib.hid hup
  clear h hf hm b0 hb0 hrg hls hup hW0
  unfold coreR at HW Hrg Hls Hup ⊢
  go_enter Tryz.func49, Tryz.ntmps49
  go_upto_region 1 with (fail)
  rw [← HW.out]
  refine wp_region_S 4 (fun W' => Below W0.heap.size W0 W') (.take 0 (.take 1 (.one 2 (.one 3 (.one 4 (.nil)))))) (by kernel_rfl) (Below.refl _ _).drew (fun _ _ _ _ h => h) (fun hS => ?_)
  refine wpS_take rfl rfl (by rfl) (fun W hW => ld_exec _ _ rfl _ _ rfl _ _ (Hrg.out W hW) Tryz.underlying47 rfl rfl) ?_
  try simp only [Act.put, List.setIfInBounds_toArray, List.set_cons_zero, List.set_cons_succ]
  refine wpS_take rfl rfl (by rfl) (fun W hW => ld_exec _ _ rfl _ _ rfl _ _ (Hrg.out W hW) Tryz.underlying47 rfl rfl) ?_
  try simp only [Act.put, List.setIfInBounds_toArray, List.set_cons_zero, List.set_cons_succ]
  refine wpS_one rfl (by rfl) (fun K hK => ?_)
  go_simp
  go_at_call 82
  refine (Hls.out _ hS).mono ?_
  rintro e w1 ⟨rfl, hb1⟩
  have hS1 := hS.trans (hb1.mono hS.size)
  clear hb1
  refine hK (fun W' => Below W0.heap.size W0 W') _ _ (fun _ h => h) hS1 ?_
  clear hK K
  try simp only [Act.put, List.setIfInBounds_toArray, List.set_cons_zero, List.set_cons_succ]
  refine wpS_one rfl (by rfl) (fun K hK => ?_)
  go_simp
  go_at_call 83
  refine (Hup.out _ hS1).mono ?_
  rintro e w2 ⟨A2, n2, c2, rfl, r2, l2, hb2⟩
  have hb2 := hS1.trans (hb2.mono hS1.size)
  refine hK (fun W' => Below W0.heap.size W0 W') _ _ (fun _ h => h) hb2 ?_
  clear hK K
  try simp only [Act.put, List.setIfInBounds_toArray, List.set_cons_zero, List.set_cons_succ]
  refine wpS_last rfl (by rfl) (fun K hK => ?_)
  go_simp
  refine hK _ _ ?_
  clear hK K
  try simp only [Act.put, List.setIfInBounds_toArray, List.set_cons_zero, List.set_cons_succ]
  refine wpS_nil ?_
  go_wp2_with fail
  go_ret
  exact ⟨A2, n2, c2, rfl, r2, l2, B.out.trans (hb2.mono B.out.size)⟩
end
end Go.Proofs.YtmhaahcbmdhinaaGreatDoor
namespace Go.Proofs.YtmhaahcbmdhinaaGreatDoor
open Go.RowKit
set_option linter.unusedVariables false
set_option linter.unusedSimpArgs false
theorem en_iff {x y : Er} : en x = en y ↔ x.a = y.a ∧ x.b = y.b ∧ x.c = y.c ∧ x.d = y.d := by
  unfold en
  constructor
  · intro h; injection h with h1 h2 h3 h4; exact ⟨h1, h2, h3, h4⟩
  · rintro ⟨h1, h2, h3, h4⟩; rw [h1, h2, h3, h4]
theorem st_iff {s s' : St} : s = s' ↔ s.tm = s'.tm ∧ s.vt = s'.vt ∧ s.b = s'.b ∧ s.t = s'.t ∧ s.l = s'.l ∧ s.cf = s'.cf ∧ s.sn = s'.sn := by
  constructor
  · rintro rfl; exact ⟨rfl, rfl, rfl, rfl, rfl, rfl, rfl⟩
  · rintro ⟨h1, h2, h3, h4, h5, h6, h7⟩
    cases s; cases s'
    dsimp only at *
    rw [h1, h2, h3, h4, h5, h6, h7]
theorem Sv.fit_of {s s' : Sv} {W W' : World} {ok ok' : Nat → Prop} (h' : s'.At W' ok') (h : s.At W ok) (hf : s.Fit) (e : s'.st = s.st) : s'.Fit := by
  obtain ⟨e1, e2, e3, e4, e5, e6, e7⟩ := st_iff.1 e
  have k1 : s'.tm = s.tm := e1
  have k2 : s'.vt = s.vt := e2
  have k3 : s'.b = s.b := e3
  have k4 : s'.t = s.t := e4
  have k5 : s'.L.map en = s.L.map en := e5
  have k6 : s'.cf = s.cf := e6
  have k7 : s'.sn = s.sn := e7
  have l1 := h'.l.flen ecell_len (by omega)
  have l2 := h.l.flen ecell_len (by omega)
  have l3 := congrArg List.length k5
  rw [List.length_map, List.length_map] at l3
  have l4 := ii_len h'.cf
  have l5 := ii_len h.cf
  have l6 := h'.sn.blen
  have l7 := h.sn.blen
  have l8 := hf.z
  refine ⟨by rw [k1, k2, k3, k4]; exact hf.i, fun y hy => ?_, by omega, by rw [k6] at l4; omega, by rw [k7] at l6; omega⟩
  have hm : en y ∈ s.L.map en := by rw [← k5]; exact List.mem_map_of_mem hy
  obtain ⟨x, hx, hxy⟩ := List.mem_map.1 hm
  obtain ⟨m1, m2, m3, m4⟩ := en_iff.1 hxy
  have m5 := (h'.d y hy).1.blen
  have m6 := (h.d x hx).1.blen
  have m7 := hf.w x hx
  rw [m4] at m6
  refine ⟨?_, by omega⟩
  have m8 := m7.1
  unfold W64 at m8 ⊢
  rw [← m1, ← m2, ← m3]
  exact m8
end Go.Proofs.YtmhaahcbmdhinaaGreatDoor
