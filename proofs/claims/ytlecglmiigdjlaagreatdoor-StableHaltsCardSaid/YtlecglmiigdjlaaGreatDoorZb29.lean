/- Walks: the document's member, from what it kept: tollbarref13.draws, tollbarref13.New. -/
import Derived.Test.YtlecglmiigdjlaaGreatDoorZb15
import Derived.Test.YtlecglmiigdjlaaGreatDoorZb12
import Derived.Test.YtlecglmiigdjlaaGreatDoorZb7
namespace Go.Proofs.YtlecglmiigdjlaaGreatDoor
open Go.RowKit
set_option maxRecDepth 100000
set_option linter.unusedVariables false
set_option linter.unusedSimpArgs false
def coreZ : Array Value := #[.int .i64 0, .int .i64 0, .int .i64 0, .int .i64 0, .slice none 0 0, .slice none 0 0, .slice none 0 0, .int .i64 0, .int .i64 0, .int .i64 0, .int .i64 0, .int .i64 0, .int .i64 0, .int .i64 0, .int .i64 0, .slice none 0 0, .slice none 0 0, .int .i64 0, .slice none 0 0]
theorem coreZ_one : coreZ.all (·.oneCell') = true := by simp [coreZ, Value.oneCell']
theorem one_set {cs : Array Value} (h : cs.all (·.oneCell') = true) (i : Nat) {v : Value} (hv : v.oneCell' = true) : (cs.setIfInBounds i v).all (·.oneCell') = true := by
  rw [Array.all_eq_true_iff_forall_mem] at h ⊢
  intro x hx
  rw [← Array.mem_toList_iff, Array.toList_setIfInBounds] at hx
  rcases List.mem_or_eq_of_mem_set hx with hx | rfl
  · exact h x (Array.mem_toList_iff.1 hx)
  · exact hv
set_option maxHeartbeats 3200000 in
theorem drawsR_any (cs : Array Value) (span draw : Int) (w : World) (hs : cs.size = 19) (h1c : cs.all (·.oneCell') = true) (h8 : cs[8]? = some (.int .i64 span)) (h1 : 2 ≤ span) (h2 : span ≤ 1000) :
    Calls Tryz.prog 80 #[.agg cs, .int .i64 draw] w (fun e w' => e = .returned (.agg ((cs.setIfInBounds 13 (.int .i64 0)).setIfInBounds 14 (.int .i64 (drw span draw)))) ∧ Below w.heap.size w w') := by
  obtain ⟨K, hK1, hK2, hK3, hK4⟩ := uint_mod draw (span.toNat + 1) (span + 1) (by omega) (by omega) (by omega)
  have hd : drw span draw = span + K := by unfold drw; rw [hK2]
  have w1 : IntKind.i64.wrap (span + 1) = span + 1 := by rw [IntKind.wrap_i64]; omega
  have w2 : IntKind.u64.wrap (span + 1) = span + 1 := by rw [IntKind.wrap_u64]; omega
  have w3 : IntKind.i64.wrap (span + K) = span + K := by rw [IntKind.wrap_i64]; omega
  have hne : ¬ span + 1 = 0 := by omega
  have w4 : IntKind.i64.wrap (K : Int) = K := by rw [IntKind.wrap_i64]; omega
  rw [hd]
  obtain ⟨W0, hW0⟩ : ∃ W0, W0 = (w.alloc (.cells cs 98)).alloc (.cells coreZ 98) := ⟨_, rfl⟩
  have b0 : Bx W0 w.heap.size cs := by subst hW0; exact (Bx.new _ _ _ rfl).alloc _
  have b9 : Bx W0 (w.heap.size + 1) coreZ := by subst hW0; exact Bx.new _ _ _ (by simp)
  have hbe : Below w.heap.size w W0 := by subst hW0; exact ((Below.refl _ _).alloc (Nat.le_refl _) _).alloc (by simp) _
  obtain ⟨v13, e13⟩ : ∃ v, cs[13]? = some v := ⟨_, Array.getElem?_eq_getElem (by omega)⟩
  obtain ⟨v14, e14⟩ : ∃ v, cs[14]? = some v := ⟨_, Array.getElem?_eq_getElem (by omega)⟩
  have c8 : W0.cell? ⟨w.heap.size, 8, none⟩ = some (.int .i64 span) := (b0.c 8).trans h8
  have c13 : W0.cell? ⟨w.heap.size, 13, none⟩ = some v13 := (b0.c 13).trans e13
  have c14 : W0.cell? ⟨w.heap.size, 14, none⟩ = some v14 := (b0.c 14).trans e14
  have f13 := b0.f 13
  have f14 := b0.f 14
  have HW := Lib.hid hW0
  have B := Lib.hid (And.intro b0 (And.intro b9 (And.intro hbe (And.intro hs h1c))))
  clear hW0 b0 b9 hbe hd hK2 e13 e14 h8 hs h1c
  go_enter Tryz.func80, Tryz.ntmps80
  go_upto_region 1 with (fail)
  have HW' := HW.out
  unfold coreZ at HW'
  rw [← HW']
  clear HW'
  go_wp2_with fail
  go_region_law (fail)
  all_goals
    obtain ⟨W5, hW5⟩ : ∃ W5, W5 = ((W0.setCell ⟨w.heap.size, 13, none⟩ (.int .i64 0)).setCell ⟨w.heap.size, 14, none⟩ (.int .i64 (span + K))).drew := ⟨_, rfl⟩
    have x5 : Bx W5 w.heap.size ((cs.setIfInBounds 13 (.int .i64 0)).setIfInBounds 14 (.int .i64 (span + K))) := by
      subst hW5
      exact ((B.out.1.set 13 _).set 14 _).drew
    have y5 : Bx W5 (w.heap.size + 1) coreZ := by
      subst hW5
      exact ((B.out.2.1.far (by simp) _).far (by simp) _).drew
    have hb5 : Below w.heap.size w W5 := by
      subst hW5
      exact ((B.out.2.2.1.setCell (Nat.le_refl _) _).setCell (Nat.le_refl _) _).drew
    have hs5 : ((cs.setIfInBounds 13 (.int .i64 0)).setIfInBounds 14 (.int .i64 (span + K))).size = 19 := by simp [B.out.2.2.2.1]
    have h15 := one_set (one_set B.out.2.2.2.2 13 (v := .int .i64 0) rfl) 14 (v := .int .i64 (span + K)) rfl
    try rw [← hW5]
    obtain ⟨cs5, hcs5⟩ : ∃ cs5, cs5 = (cs.setIfInBounds 13 (.int .i64 0)).setIfInBounds 14 (.int .i64 (span + K)) := ⟨_, rfl⟩
    rw [← hcs5] at x5 hs5 h15
    have Hc := Lib.hid hcs5
    clear hcs5
    obtain ⟨tx, hx⟩ := x5.hp
    obtain ⟨ty, hy⟩ := y5.hp
    have hz1 : ¬ w.heap.size + 1 = w.heap.size := by omega
    have Z := Lib.hid (And.intro hx (And.intro hy (And.intro hs5 (And.intro h15 hb5))))
    have hi : (Tryz.prog.info? 98).map (·.size) = some cs5.size := by rw [hs5]; kernel_rfl
    have Hi := Lib.hid hi
    clear c8 c13 c14 f13 f14 hW5 x5 y5 hx hy hs5 h15 hb5 hi B HW
    go_wp2_with (first
      | (refine wpList_load_row rfl 98 _ rfl _ rfl _ _ _ _ Z.out.1 Tryz.underlying98 rfl Hi.out ?_)
      | (refine wpList_store_row rfl 98 _ _ rfl _ _ rfl rfl _ _ Z.out.2.1 Hi.out (Z.out.2.2.1.symm ▸ rfl) Z.out.2.2.2.1 ?_))
    refine bodyPost_ret (results_cell_row rfl _ _ (w.heap.size + 1) _ cs5 (0, 0) _ rfl (setRow_heap _ _ _ _ _ _ Z.out.2.1) Tryz.underlying98 rfl Hi.out) rfl ?_
    exact ⟨by rw [Hc.out], below_setRow Z.out.2.2.2.2 (by omega) _⟩
set_option maxHeartbeats 3200000 in
/-- The document's New: whether it can be. -/
def NewRPost (W : World) (id span draw : Int) (s : Sv) (e : Ending) (w' : World) : Prop :=
  ∃ cs : Array Value, cs.size = 19 ∧ cs.all (·.oneCell') = true ∧ (s.st.may = true → cs = #[.int .i64 s.tm, .int .i64 s.vt, .int .i64 s.b, .int .i64 s.t, .slice s.A s.n s.c, .slice s.C s.nc s.cc, .slice s.S s.ns s.cs, .int .i64 id, .int .i64 span, .int .i64 0, .int .i64 0, .int .i64 s.b, .int .i64 0, .int .i64 0, .int .i64 (drw span draw), .slice none 0 0, .slice none 0 0, .int .i64 0, .slice none 0 0]) ∧ e = .returned (.tuple #[.agg cs, .int .i64 (if s.st.may = true then 0 else 1)]) ∧ Below W.heap.size W w'
set_option maxHeartbeats 3200000 in
theorem newR_ok (id span draw : Int) (s : Sv) (w : World) {ok : Nat → Prop} (h : s.At w ok) (hf : s.Fit) (h1 : 1 ≤ id) (h2 : id ≤ 64) (h3 : 2 ≤ span) (h4 : span ≤ 1000) :
    Calls Tryz.prog 43 #[.int .i64 id, .int .i64 span, s.val, .int .i64 draw] w (NewRPost w id span draw s) := by
  obtain ⟨W0, hW0⟩ : ∃ W0, W0 = (w.alloc (.cells s.cells 50)).alloc (.cells coreZ 98) := ⟨_, rfl⟩
  have b0 : Bx W0 w.heap.size s.cells := by subst hW0; exact (Bx.new _ _ _ rfl).alloc _
  have b9 : Bx W0 (w.heap.size + 1) coreZ := by subst hW0; exact Bx.new _ _ _ (by simp)
  have hbe : Below w.heap.size w W0 := by subst hW0; exact ((Below.refl _ _).alloc (Nat.le_refl _) _).alloc (by simp) _
  have hz0 : W0.heap.size = w.heap.size + 2 := by subst hW0; simp
  have a0 := h.below hbe
  have hla := lastR_any s.b s.t s.A s.n s.c s.L W0 a0.l (h.wel hf) hf.z.1
  have hma := fun W (hb : Below W0.heap.size W0 W) => mayR_any s.b s.t s.A s.n s.c s.L W (a0.l.below hb) (h.wel hf) hf.z.1
  have hca := fun W (hb : Below W0.heap.size W0 W) => cmayR_any s.C s.nc s.cc s.cf W (a0.cf.below hb) hf.z.2.1
  have hra := fun W (hb : Below W0.heap.size W0 W) => readR_any s.A s.n s.c s.L W (a0.l.below hb) (fun y hy => ⟨((a0.d y hy).1.any).below hb, (a0.d y hy).2⟩) hf.z.1
  obtain ⟨q, hq⟩ : ∃ q, lmay s.b s.t (s.L.map en) = q := ⟨_, rfl⟩
  obtain ⟨y, hy⟩ : ∃ y, lstB s.t (s.L.map en) = y := ⟨_, rfl⟩
  have hS : s.st.may = (q && cmay s.cf && rdok s.L && decide (y ≤ s.tm) && decide (s.tm ≤ 1099511627776) && decide (0 ≤ s.vt) && decide (s.vt ≤ 64)) := by
    show St.may ⟨s.tm, s.vt, s.b, s.t, s.L.map en, s.cf, s.sn⟩ = _
    rw [← smay_st, smay, hq, hy]
  have hma' : ∀ W, Below W0.heap.size W0 W → Calls Tryz.prog 77 #[.agg #[.int .i64 s.b, .int .i64 s.t, .slice s.A s.n s.c]] W (BoolPost W q) := fun W hb => by rw [← hq]; exact hma W hb
  rw [hq, hy] at hla
  generalize lstA s.b (s.L.map en) = x at hla
  generalize cmay s.cf = p at hca hS
  generalize rdok s.L = r at hra hS
  obtain ⟨c0, c1, c2, c3, c4, c5, c6⟩ := Sv.c7 b0
  have g1 : decide (id < 1) = false := decide_eq_false (by omega)
  have g2 : decide (64 < id) = false := decide_eq_false (by omega)
  have g3 : decide (span < 2) = false := decide_eq_false (by omega)
  have g4 : decide (1000 < span) = false := decide_eq_false (by omega)
  have HW := Lib.hid hW0
  have B := Lib.hid (And.intro b0 (And.intro b9 (And.intro hbe hz0)))
  have Hla := Lib.hid hla
  have Hma := Lib.hid hma'
  have Hca := Lib.hid hca
  have Hra := Lib.hid hra
  have HS := Lib.hid hS
  clear hW0 b0 b9 hbe hz0 a0 hla hma hma' hca hra hS hq hy h
  unfold Sv.val stA
  go_enter Tryz.func43, Tryz.ntmps43
  go_upto_region 1 with (fail)
  have HW' := HW.out
  unfold Sv.cells coreZ at HW'
  rw [← HW']
  clear HW'
  cases q
  · go_wp2_with fail
    refine Hla.out.mono ?_
    rintro e w1 ⟨rfl, hb1⟩
    clear c0 c1 c2 c3 c4 c5 c6
    obtain ⟨c0, c1, c2, c3, c4, c5, c6⟩ := Sv.c7 (B.out.1.below hb1)
    go_wp2_with fail
    refine (Hma.out w1 hb1).mono ?_
    rintro e w2 ⟨rfl, hb2⟩
    have K2 := Lib.hid (hb1.trans (hb2.mono hb1.size))
    clear c0 c1 c2 c3 c4 c5 c6 hb1 hb2
    obtain ⟨ty, hy⟩ := (B.out.2.1.below K2.out).hp
    have hno : s.st.may = false := by rw [HS.out]; simp
    have Hno := Lib.hid hno
    have KB := Lib.hid (K2.out)
    have Hy := Lib.hid hy
    clear hy hno
    go_upto_region 3 with (fail)
    refine wp_region_lit ?_
    refine wpList_build rfl _ _ rfl (by kernel_rfl) ?_
    refine wpList_store_row rfl 98 _ _ rfl (w.heap.size + 1) coreZ (by rfl) (by kernel_rfl) _ _ Hy.out (by kernel_rfl) rfl coreZ_one ?_
    go_wp2_with fail
    refine bodyPost_ret (results_row_tmp rfl _ _ (w.heap.size + 1) _ coreZ (0, 0) _ rfl (setRow_heap _ _ _ _ _ _ Hy.out) Tryz.underlying98 rfl (by kernel_rfl)) rfl ?_
    refine ⟨coreZ, rfl, coreZ_one, fun h => (by rw [Hno.out] at h; cases h), ?_, ?_⟩
    · rw [if_neg (by rw [Hno.out]; decide)]; rfl
    · exact below_setRow (B.out.2.2.1.trans (KB.out.mono B.out.2.2.1.size)) (by omega) _
  · go_wp2_with fail
    refine Hla.out.mono ?_
    rintro e w1 ⟨rfl, hb1⟩
    clear c0 c1 c2 c3 c4 c5 c6
    obtain ⟨c0, c1, c2, c3, c4, c5, c6⟩ := Sv.c7 (B.out.1.below hb1)
    rw [if_pos (by trivial), if_pos (by trivial)]
    go_wp2_with fail
    refine (Hma.out w1 hb1).mono ?_
    rintro e w2 ⟨rfl, hb2⟩
    have K2 := Lib.hid (hb1.trans (hb2.mono hb1.size))
    clear c0 c1 c2 c3 c4 c5 c6 hb1 hb2
    obtain ⟨c0, c1, c2, c3, c4, c5, c6⟩ := Sv.c7 (B.out.1.below K2.out)
    go_wp2_with fail
    refine (Hca.out w2 K2.out).mono ?_
    rintro e w3 ⟨rfl, hb3⟩
    have K3 := Lib.hid (K2.out.trans (hb3.mono K2.out.size))
    clear c0 c1 c2 c3 c4 c5 c6 hb3
    obtain ⟨c0, c1, c2, c3, c4, c5, c6⟩ := Sv.c7 (B.out.1.below K3.out)
    cases p
    · skip
      obtain ⟨ty, hy⟩ := (B.out.2.1.below K3.out).hp
      have hno : s.st.may = false := by rw [HS.out]; simp
      have Hno := Lib.hid hno
      have KB := Lib.hid (K3.out)
      have Hy := Lib.hid hy
      clear hy hno
      go_upto_region 3 with (fail)
      refine wp_region_lit ?_
      refine wpList_build rfl _ _ rfl (by kernel_rfl) ?_
      refine wpList_store_row rfl 98 _ _ rfl (w.heap.size + 1) coreZ (by rfl) (by kernel_rfl) _ _ Hy.out (by kernel_rfl) rfl coreZ_one ?_
      go_wp2_with fail
      refine bodyPost_ret (results_row_tmp rfl _ _ (w.heap.size + 1) _ coreZ (0, 0) _ rfl (setRow_heap _ _ _ _ _ _ Hy.out) Tryz.underlying98 rfl (by kernel_rfl)) rfl ?_
      refine ⟨coreZ, rfl, coreZ_one, fun h => (by rw [Hno.out] at h; cases h), ?_, ?_⟩
      · rw [if_neg (by rw [Hno.out]; decide)]; rfl
      · exact below_setRow (B.out.2.2.1.trans (KB.out.mono B.out.2.2.1.size)) (by omega) _
    go_wp2_with fail
    refine (Hra.out w3 K3.out).mono ?_
    rintro e w4 ⟨rfl, hb4⟩
    have K4 := Lib.hid (K3.out.trans (hb4.mono K3.out.size))
    clear c0 c1 c2 c3 c4 c5 c6 hb4
    obtain ⟨c0, c1, c2, c3, c4, c5, c6⟩ := Sv.c7 (B.out.1.below K4.out)
    cases r
    · skip
      obtain ⟨ty, hy⟩ := (B.out.2.1.below K4.out).hp
      have hno : s.st.may = false := by rw [HS.out]; simp
      have Hno := Lib.hid hno
      have KB := Lib.hid (K4.out)
      have Hy := Lib.hid hy
      clear hy hno
      go_upto_region 3 with (fail)
      refine wp_region_lit ?_
      refine wpList_build rfl _ _ rfl (by kernel_rfl) ?_
      refine wpList_store_row rfl 98 _ _ rfl (w.heap.size + 1) coreZ (by rfl) (by kernel_rfl) _ _ Hy.out (by kernel_rfl) rfl coreZ_one ?_
      go_wp2_with fail
      refine bodyPost_ret (results_row_tmp rfl _ _ (w.heap.size + 1) _ coreZ (0, 0) _ rfl (setRow_heap _ _ _ _ _ _ Hy.out) Tryz.underlying98 rfl (by kernel_rfl)) rfl ?_
      refine ⟨coreZ, rfl, coreZ_one, fun h => (by rw [Hno.out] at h; cases h), ?_, ?_⟩
      · rw [if_neg (by rw [Hno.out]; decide)]; rfl
      · exact below_setRow (B.out.2.2.1.trans (KB.out.mono B.out.2.2.1.size)) (by omega) _
    by_cases k1 : y ≤ s.tm
    · by_cases k2 : s.tm ≤ 1099511627776
      · by_cases k3 : 0 ≤ s.vt
        · by_cases k4 : s.vt ≤ 64
          · have hyes : s.st.may = true := by rw [HS.out]; simp [k1, k2, k3, k4]
            have Hyes := Lib.hid hyes
            clear hyes
            have k1d : decide (s.tm < y) = false := decide_eq_false (by omega)
            have k2d : decide (1099511627776 < s.tm) = false := decide_eq_false (by omega)
            have k3d : decide (s.vt < 0) = false := decide_eq_false (by omega)
            have k4d : decide (64 < s.vt) = false := decide_eq_false (by omega)
            go_upto_region 4 with (fail)
            go_wp2_with fail
            refine (drawsR_any #[.int .i64 s.tm, .int .i64 s.vt, .int .i64 s.b, .int .i64 s.t, .slice s.A s.n s.c, .slice s.C s.nc s.cc, .slice s.S s.ns s.cs, .int .i64 id, .int .i64 span, .int .i64 0, .int .i64 0, .int .i64 s.b, .int .i64 0, .int .i64 0, .int .i64 0, .slice none 0 0, .slice none 0 0, .int .i64 0, .slice none 0 0] span draw w4 rfl (by simp [Value.oneCell']) rfl h3 h4).mono ?_
            rintro e w5 ⟨rfl, hb5⟩
            have K5 := Lib.hid (K4.out.trans (hb5.mono K4.out.size))
            obtain ⟨ty, hy⟩ := (B.out.2.1.below K5.out).hp
            have Hy := Lib.hid hy
            obtain ⟨cs6, hcs6⟩ : ∃ cs6 : Array Value, cs6 = #[.int .i64 s.tm, .int .i64 s.vt, .int .i64 s.b, .int .i64 s.t, .slice s.A s.n s.c, .slice s.C s.nc s.cc, .slice s.S s.ns s.cs, .int .i64 id, .int .i64 span, .int .i64 0, .int .i64 0, .int .i64 s.b, .int .i64 0, .int .i64 0, .int .i64 (drw span draw), .slice none 0 0, .slice none 0 0, .int .i64 0, .slice none 0 0] := ⟨_, rfl⟩
            have hs6 : cs6.size = 19 := by rw [hcs6]; rfl
            have h16 : cs6.all (·.oneCell') = true := by rw [hcs6]; simp [Value.oneCell']
            have hi6 : (Tryz.prog.info? 98).map (·.size) = some cs6.size := by rw [hs6]; kernel_rfl
            have H6 := Lib.hid (And.intro hcs6 (And.intro hs6 (And.intro h16 hi6)))
            rw [show ((#[Value.int .i64 s.tm, .int .i64 s.vt, .int .i64 s.b, .int .i64 s.t, .slice s.A s.n s.c, .slice s.C s.nc s.cc, .slice s.S s.ns s.cs, .int .i64 id, .int .i64 span, .int .i64 0, .int .i64 0, .int .i64 s.b, .int .i64 0, .int .i64 0, .int .i64 0, .slice none 0 0, .slice none 0 0, .int .i64 0, .slice none 0 0].setIfInBounds 13 (.int .i64 0)).setIfInBounds 14 (.int .i64 (drw span draw))) = cs6 from hcs6.symm]
            dsimp only
            clear hcs6 hs6 h16 hi6 hy c0 c1 c2 c3 c4 c5 c6
            go_wp2_with (refine wpList_store_row rfl 98 _ _ rfl _ _ rfl rfl _ _ Hy.out H6.out.2.2.2 (H6.out.2.1.symm ▸ rfl) H6.out.2.2.1 ?_)
            refine bodyPost_ret (results_row_tmp rfl _ _ (w.heap.size + 1) _ cs6 (0, 0) _ rfl (setRow_heap _ _ _ _ _ _ Hy.out) Tryz.underlying98 rfl H6.out.2.2.2) rfl ?_
            refine ⟨cs6, H6.out.2.1, H6.out.2.2.1, fun _ => H6.out.1, ?_, ?_⟩
            · rw [if_pos Hyes.out]; rfl
            · exact below_setRow (B.out.2.2.1.trans (K5.out.mono B.out.2.2.1.size)) (by omega) _
          · have h4d : decide (64 < s.vt) = true := decide_eq_true (by omega)
            obtain ⟨ty, hy⟩ := (B.out.2.1.below K4.out).hp
            have hno : s.st.may = false := by rw [HS.out]; simp [k4]
            have Hno := Lib.hid hno
            have KB := Lib.hid (K4.out)
            have Hy := Lib.hid hy
            clear hy hno
            go_upto_region 3 with (fail)
            refine wp_region_lit ?_
            refine wpList_build rfl _ _ rfl (by kernel_rfl) ?_
            refine wpList_store_row rfl 98 _ _ rfl (w.heap.size + 1) coreZ (by rfl) (by kernel_rfl) _ _ Hy.out (by kernel_rfl) rfl coreZ_one ?_
            go_wp2_with fail
            refine bodyPost_ret (results_row_tmp rfl _ _ (w.heap.size + 1) _ coreZ (0, 0) _ rfl (setRow_heap _ _ _ _ _ _ Hy.out) Tryz.underlying98 rfl (by kernel_rfl)) rfl ?_
            refine ⟨coreZ, rfl, coreZ_one, fun h => (by rw [Hno.out] at h; cases h), ?_, ?_⟩
            · rw [if_neg (by rw [Hno.out]; decide)]; rfl
            · exact below_setRow (B.out.2.2.1.trans (KB.out.mono B.out.2.2.1.size)) (by omega) _
        · have h3d : decide (s.vt < 0) = true := decide_eq_true (by omega)
          obtain ⟨ty, hy⟩ := (B.out.2.1.below K4.out).hp
          have hno : s.st.may = false := by rw [HS.out]; simp [k3]
          have Hno := Lib.hid hno
          have KB := Lib.hid (K4.out)
          have Hy := Lib.hid hy
          clear hy hno
          go_upto_region 3 with (fail)
          refine wp_region_lit ?_
          refine wpList_build rfl _ _ rfl (by kernel_rfl) ?_
          refine wpList_store_row rfl 98 _ _ rfl (w.heap.size + 1) coreZ (by rfl) (by kernel_rfl) _ _ Hy.out (by kernel_rfl) rfl coreZ_one ?_
          go_wp2_with fail
          refine bodyPost_ret (results_row_tmp rfl _ _ (w.heap.size + 1) _ coreZ (0, 0) _ rfl (setRow_heap _ _ _ _ _ _ Hy.out) Tryz.underlying98 rfl (by kernel_rfl)) rfl ?_
          refine ⟨coreZ, rfl, coreZ_one, fun h => (by rw [Hno.out] at h; cases h), ?_, ?_⟩
          · rw [if_neg (by rw [Hno.out]; decide)]; rfl
          · exact below_setRow (B.out.2.2.1.trans (KB.out.mono B.out.2.2.1.size)) (by omega) _
      · have h2d : decide (1099511627776 < s.tm) = true := decide_eq_true (by omega)
        obtain ⟨ty, hy⟩ := (B.out.2.1.below K4.out).hp
        have hno : s.st.may = false := by rw [HS.out]; simp [k2]
        have Hno := Lib.hid hno
        have KB := Lib.hid (K4.out)
        have Hy := Lib.hid hy
        clear hy hno
        go_upto_region 3 with (fail)
        refine wp_region_lit ?_
        refine wpList_build rfl _ _ rfl (by kernel_rfl) ?_
        refine wpList_store_row rfl 98 _ _ rfl (w.heap.size + 1) coreZ (by rfl) (by kernel_rfl) _ _ Hy.out (by kernel_rfl) rfl coreZ_one ?_
        go_wp2_with fail
        refine bodyPost_ret (results_row_tmp rfl _ _ (w.heap.size + 1) _ coreZ (0, 0) _ rfl (setRow_heap _ _ _ _ _ _ Hy.out) Tryz.underlying98 rfl (by kernel_rfl)) rfl ?_
        refine ⟨coreZ, rfl, coreZ_one, fun h => (by rw [Hno.out] at h; cases h), ?_, ?_⟩
        · rw [if_neg (by rw [Hno.out]; decide)]; rfl
        · exact below_setRow (B.out.2.2.1.trans (KB.out.mono B.out.2.2.1.size)) (by omega) _
    · have h1d : decide (s.tm < y) = true := decide_eq_true (by omega)
      obtain ⟨ty, hy⟩ := (B.out.2.1.below K4.out).hp
      have hno : s.st.may = false := by rw [HS.out]; simp [k1]
      have Hno := Lib.hid hno
      have KB := Lib.hid (K4.out)
      have Hy := Lib.hid hy
      clear hy hno
      go_upto_region 3 with (fail)
      refine wp_region_lit ?_
      refine wpList_build rfl _ _ rfl (by kernel_rfl) ?_
      refine wpList_store_row rfl 98 _ _ rfl (w.heap.size + 1) coreZ (by rfl) (by kernel_rfl) _ _ Hy.out (by kernel_rfl) rfl coreZ_one ?_
      go_wp2_with fail
      refine bodyPost_ret (results_row_tmp rfl _ _ (w.heap.size + 1) _ coreZ (0, 0) _ rfl (setRow_heap _ _ _ _ _ _ Hy.out) Tryz.underlying98 rfl (by kernel_rfl)) rfl ?_
      refine ⟨coreZ, rfl, coreZ_one, fun h => (by rw [Hno.out] at h; cases h), ?_, ?_⟩
      · rw [if_neg (by rw [Hno.out]; decide)]; rfl
      · exact below_setRow (B.out.2.2.1.trans (KB.out.mono B.out.2.2.1.size)) (by omega) _
end Go.Proofs.YtlecglmiigdjlaaGreatDoor
