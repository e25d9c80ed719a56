/- Walk: the law's giveStored. (Printed by mkgive15.py.)
   Walks: the document's member, from what it kept: tollbarref13.draws, tollbarref13.New.
   Walks: the law's blank, own, right, long.
   Walk of the law's ints: are two lists of numbers the same? -/
import Derived.Test.YtlecglmiigdjlaaGreatDoorZa26
import Derived.Test.YtlecglmiigdjlaaGreatDoorZa27
import Derived.Test.YtlecglmiigdjlaaGreatDoorZa15
import Derived.Test.YtlecglmiigdjlaaGreatDoorZa12
import Derived.Test.YtlecglmiigdjlaaGreatDoorZa7
import Derived.Test.YtlecglmiigdjlaaGreatDoorZa13
import Derived.RegionTactic
namespace Go.Proofs.YtlecglmiigdjlaaGreatDoor
open Go.RowKit
set_option maxRecDepth 100000
set_option linter.unusedVariables false
set_option linter.unusedSimpArgs false
def GiveSP (W : World) (s : St) (e : Ending) (w' : World) : Prop := ∃ s' : Sv, e = .returned s'.val ∧ s'.At w' (W.heap.size ≤ ·) ∧ s'.st = s ∧ s'.Fit ∧ Below W.heap.size W w'
set_option maxHeartbeats 3200000 in
theorem giveS_any (s : Sv) (w : World) {ok : Nat → Prop} (h : s.At w ok) (hf : s.Fit) :
    Calls Tryz.prog 16 #[s.val] w (GiveSP w s.st) := by
  obtain ⟨W0, hW0⟩ : ∃ W0, W0 = (w.alloc (.cells s.cells 50)).alloc (.cells z7 35) := ⟨_, rfl⟩
  have b0 : Bx W0 w.heap.size s.cells := by subst hW0; exact (Bx.new _ _ _ rfl).alloc _
  have b9 : Bx W0 (w.heap.size + 1) z7 := by subst hW0; exact Bx.new _ _ _ (by simp)
  have hbe : Below w.heap.size w W0 := by subst hW0; exact ((Below.refl _ _).alloc (Nat.le_refl _) _).alloc (by simp) _
  have hz0 : W0.heap.size = w.heap.size + 2 := by subst hW0; simp
  have a0 := h.below hbe
  have hgl := giveLogB_any s.b s.t s.A s.n s.c s.L W0.drew a0.l.any.drew (fun y hy => ⟨(a0.d y hy).1.any.drew, (a0.d y hy).2⟩) (fun y hy => (hf.w y hy).2) hf.z.1
  have F : ∀ W, Below W0.heap.size W0 W → W.cell? ⟨w.heap.size, 0, none⟩ = some (.int .i64 s.tm) ∧ W.cell? ⟨w.heap.size, 1, none⟩ = some (.int .i64 s.vt) ∧ W.cell? ⟨w.heap.size, 2, none⟩ = some (.int .i64 s.b) ∧ W.cell? ⟨w.heap.size, 3, none⟩ = some (.int .i64 s.t) ∧ W.cell? ⟨w.heap.size, 4, none⟩ = some (.slice s.A s.n s.c) ∧ W.cell? ⟨w.heap.size, 5, none⟩ = some (.slice s.C s.nc s.cc) ∧ W.cell? ⟨w.heap.size, 6, none⟩ = some (.slice s.S s.ns s.cs) := fun W hb => Sv.c7 (b0.below hb)
  have hz := hf.z
  have FF := Lib.hid F
  have HW := Lib.hid hW0
  have B := Lib.hid (And.intro b9 (And.intro hbe (And.intro hz0 a0)))
  have Hgl := Lib.hid hgl
  have Hh := Lib.hid h
  clear F hW0 b0 b9 hbe hz0 a0 hgl h
  unfold Sv.val stA
  go_enter Tryz.func16, Tryz.ntmps16
  go_upto_region 1 with (fail)
  have HW' := HW.out
  unfold Sv.cells z7 at HW'
  rw [← HW']
  clear HW'
  go_upto_region 3 with (fail)
  refine wp_region_S 16 (fun W => Below W0.heap.size W0 W) (.take 0 (.take 1 (.take 2 (.take 3 (.take 4 (.take 5 (.take 7 (.take 8 (.take 9 (.take 11 (.take 12 (.take 13 (.one 6 (.one 10 (.one 14 (.take 15 (.one 16 (.nil)))))))))))))))))) (by kernel_rfl) (Below.refl _ _).drew (fun _ _ _ _ h => h) (fun hS => ?_)
  repeat (first
    | (refine wpS_take (v := ?_) rfl rfl (by rfl) ?_ ?_; rotate_left; (intro W hW; have hf := FF.out W hW; go_split_ands; go_simp; try with_reducible rfl); try simp only [Act.put, List.setIfInBounds_toArray, List.set_cons_zero, List.set_cons_succ])
    | (refine wpS_skip rfl rfl (by rfl) ?_; try simp only [Act.put, List.setIfInBounds_toArray, List.set_cons_zero, List.set_cons_succ]))
  refine wpS_one rfl (by rfl) (fun K hK => ?_)
  go_simp
  go_at_call 38
  refine (Hgl.out).mono ?_
  rintro e w1 ⟨A1, c1, L1, rfl, r1, d1, e1, k1, k2, hb1⟩
  have hb1' : Below W0.heap.size W0 w1 := (Below.refl _ _).drew.trans hb1
  have R1 := Lib.hid (And.intro r1 (And.intro d1 (And.intro e1 (And.intro k1 k2))))
  have hS1 := hb1'
  clear r1 d1 e1 hb1 hb1'
  refine hK (fun W => Below W0.heap.size W0 W) _ _ (fun _ h => h) hS1 ?_
  clear hK K
  try simp only [Act.put, List.setIfInBounds_toArray, List.set_cons_zero, List.set_cons_succ]
  refine wpS_one rfl (by rfl) (fun K hK => ?_)
  refine wp_append_any w1 Tryz.underlying22 int_elem rfl (by omega) rfl rfl (World.ownsRow_nil w1 w1.heap.size _ 1) rfl (B.out.2.2.2.cf.any.below hS1) (ii_one _) (by omega) (Nat.le_refl _) (Nat.zero_add _) (List.nil_append _) ?_
  intro A2 c2 w2 o2 g2 hat2
  clear hat2
  have hb2 : Below w1.heap.size w1 w2 := (Below.refl _ _).grown g2 (Nat.le_refl _) (fun q hq => by cases hq)
  have hS2 := hS1.trans (hb2.mono hS1.size)
  have O2 := Lib.hid (And.intro o2 hb2)
  refine hK (fun W => Below W0.heap.size W0 W) _ _ (fun _ h => h) hS2 ?_
  clear hK K o2 g2 hb2
  try simp only [Act.put, List.setIfInBounds_toArray, List.set_cons_zero, List.set_cons_succ]
  refine wpS_one rfl (by rfl) (fun K hK => ?_)
  refine wp_append_any w2 Tryz.underlying33 u8_elem rfl (by omega) rfl rfl (World.ownsRow_nil w2 w2.heap.size _ 1) rfl (B.out.2.2.2.sn.any.below hS2) (bs_one _) (by omega) (Nat.le_refl _) (Nat.zero_add _) (List.nil_append _) ?_
  intro A3 c3 w3 o3 g3 hat3
  clear hat3
  have hb3 : Below w2.heap.size w2 w3 := (Below.refl _ _).grown g3 (Nat.le_refl _) (fun q hq => by cases hq)
  have hS3 := hS2.trans (hb3.mono hS2.size)
  have O3 := Lib.hid (And.intro o3 hb3)
  refine hK (fun W => Below W0.heap.size W0 W) _ _ (fun _ h => h) hS3 ?_
  clear hK K o3 g3 hb3
  try simp only [Act.put, List.setIfInBounds_toArray, List.set_cons_zero, List.set_cons_succ]
  repeat (first
    | (refine wpS_take (v := ?_) rfl rfl (by rfl) ?_ ?_; rotate_left; (intro W hW; have hf := FF.out W hW; go_split_ands; go_simp; try with_reducible rfl); try simp only [Act.put, List.setIfInBounds_toArray, List.set_cons_zero, List.set_cons_succ])
    | (refine wpS_skip rfl rfl (by rfl) ?_; try simp only [Act.put, List.setIfInBounds_toArray, List.set_cons_zero, List.set_cons_succ]))
  have y9 := B.out.1.below hS3
  obtain ⟨q0, q1, q2, q3, q4, q5, q6⟩ := y9.c7
  have p0 := y9.f 0
  have p1 := y9.f 1
  have p2 := y9.f 2
  have p3 := y9.f 3
  have p4 := y9.f 4
  have p5 := y9.f 5
  have p6 := y9.f 6
  have Y9 := Lib.hid (And.intro y9 (And.intro hS1 (And.intro hS2 hS3)))
  clear y9
  refine wpS_last rfl (by rfl) (fun K hK => ?_)
  go_simp
  refine hK _ _ ?_
  clear hK K hS hS1 hS2 hS3
  try simp only [Act.put, List.setIfInBounds_toArray, List.set_cons_zero, List.set_cons_succ]
  refine wpS_nil ?_
  clear q0 q1 q2 q3 q4 q5 q6 p0 p1 p2 p3 p4 p5 p6
  obtain ⟨W4, hW4⟩ : ∃ W4, W4 = (((((((w3.setCell ⟨w.heap.size + 1, 0, none⟩ (.int .i64 s.tm)).setCell ⟨w.heap.size + 1, 1, none⟩ (.int .i64 s.vt)).setCell ⟨w.heap.size + 1, 2, none⟩ (.int .i64 s.b)).setCell ⟨w.heap.size + 1, 3, none⟩ (.int .i64 s.t)).setCell ⟨w.heap.size + 1, 4, none⟩ (.slice A1 s.n c1)).setCell ⟨w.heap.size + 1, 5, none⟩ (.slice A2 s.nc c2)).setCell ⟨w.heap.size + 1, 6, none⟩ (.slice A3 s.ns c3)) := ⟨_, rfl⟩
  have x4 : Bx W4 (w.heap.size + 1) (Sv.cells ⟨s.tm, s.vt, s.b, s.t, A1, s.n, c1, L1, A2, s.nc, c2, s.cf, A3, s.ns, c3, s.sn⟩) := by
    rw [hW4]
    exact Bx.set7 Y9.out.1 _ _ _ _ _ _ _
  have hk : ∀ b, b ≠ w.heap.size + 1 → W4.heap[b]? = w3.heap[b]? := fun b hb => by
    rw [hW4]
    exact keep7 hb _ _ _ _ _ _ _
  have b4 : Below w.heap.size w W4 := by
    have h1 := B.out.2.1.trans (Y9.out.2.2.2.mono B.out.2.1.size)
    have h2 : Below w.heap.size w3 W4 := by
      rw [hW4]
      exact (below7 (Below.refl (w.heap.size + 1) w3) _ _ _ _ _ _ _).mono (by omega)
    exact h1.trans h2
  have z1 := Y9.out.2.1.size
  have z2 := Y9.out.2.2.1.size
  have hz0 := B.out.2.2.1
  have zd : W0.drew.heap.size = W0.heap.size := rfl
  have a3 : Sv.At ⟨s.tm, s.vt, s.b, s.t, A1, s.n, c1, L1, A2, s.nc, c2, s.cf, A3, s.ns, c3, s.sn⟩ w3 (W0.heap.size ≤ ·) :=
    ⟨(R1.out.1.below O2.out.2).below O3.out.2, fun y hy => ⟨((R1.out.2.1 y hy).1.below O2.out.2).below O3.out.2, (R1.out.2.1 y hy).2⟩, ((Rd.of_own O2.out.1).mono fun b hb => (by omega : W0.heap.size ≤ b)).below O3.out.2, (Rd.of_own O3.out.1).mono fun b hb => (by omega : W0.heap.size ≤ b), R1.out.2.2.2, own_cp O2.out.1, own_cp O3.out.1⟩
  have a4 := (a3.keep (W' := W4) fun b hb _ => hk b (by have h9 : W0.heap.size ≤ b := hb; omega)).mono (ok' := (w.heap.size ≤ ·)) fun b hb => (by have h9 : W0.heap.size ≤ b := hb; omega)
  have st4 : Sv.st ⟨s.tm, s.vt, s.b, s.t, A1, s.n, c1, L1, A2, s.nc, c2, s.cf, A3, s.ns, c3, s.sn⟩ = s.st := by
    have h9 : L1.map en = s.L.map en := R1.out.2.2.1
    unfold Sv.st
    dsimp only
    rw [h9]
  have f4 := Sv.fit_of a4 Hh.out hf st4
  rw [← hW4]
  have K4 := Lib.hid (And.intro a4 (And.intro st4 (And.intro f4 b4)))
  clear hW4 hk b4 a3 a4 st4 f4
  go_wp2_with fail
  obtain ⟨ty4, hg4⟩ := x4.hp
  refine bodyPost_ret (results_cell_row rfl _ _ (w.heap.size + 1) _ _ (0, 0) _ rfl hg4 Tryz.underlying35 rfl (by kernel_rfl)) rfl ?_
  exact ⟨_, rfl, K4.out.1, K4.out.2.1, K4.out.2.2.1, K4.out.2.2.2⟩
end Go.Proofs.YtlecglmiigdjlaaGreatDoor
namespace Go.Proofs.YtlecglmiigdjlaaGreatDoor
open Go.RowKit
set_option maxRecDepth 100000
set_option linter.unusedVariables false
set_option linter.unusedSimpArgs false
def coreZ : Array Value := #[.int .i64 0, .int .i64 0, .int .i64 0, .int .i64 0, .slice none 0 0, .slice none 0 0, .slice none 0 0, .int .i64 0, .int .i64 0, .int .i64 0, .int .i64 0, .int .i64 0, .int .i64 0, .int .i64 0, .int .i64 0, .slice none 0 0, .slice none 0 0, .int .i64 0, .slice none 0 0]
theorem coreZ_one : coreZ.all (·.oneCell') = true := by simp [coreZ, Value.oneCell']
theorem one_set {cs : Array Value} (h : cs.all (·.oneCell') = true) (i : Nat) {v : Value} (hv : v.oneCell' = true) : (cs.setIfInBounds i v).all (·.oneCell') = true := by
  rw [Array.all_eq_true_iff_forall_mem] at h ⊢
  intro x hx
  rw [← Array.mem_toList_iff, Array.toList_setIfInBounds] at hx
  rcases List.mem_or_eq_of_mem_set hx with hx | rfl
  · exact h x (Array.mem_toList_iff.1 hx)
  · exact hv
set_option maxHeartbeats 3200000 in
theorem drawsR_any (cs : Array Value) (span draw : Int) (w : World) (hs : cs.size = 19) (h1c : cs.all (·.oneCell') = true) (h8 : cs[8]? = some (.int .i64 span)) (h1 : 2 ≤ span) (h2 : span ≤ 1000) :
    Calls Tryz.prog 80 #[.agg cs, .int .i64 draw] w (fun e w' => e = .returned (.agg ((cs.setIfInBounds 13 (.int .i64 0)).setIfInBounds 14 (.int .i64 (drw span draw)))) ∧ Below w.heap.size w w') := by
  obtain ⟨K, hK1, hK2, hK3, hK4⟩ := uint_mod draw (span.toNat + 1) (span + 1) (by omega) (by omega) (by omega)
  have hd : drw span draw = span + K := by unfold drw; rw [hK2]
  have w1 : IntKind.i64.wrap (span + 1) = span + 1 := by rw [IntKind.wrap_i64]; omega
  have w2 : IntKind.u64.wrap (span + 1) = span + 1 := by rw [IntKind.wrap_u64]; omega
  have w3 : IntKind.i64.wrap (span + K) = span + K := by rw [IntKind.wrap_i64]; omega
  have hne : ¬ span + 1 = 0 := by omega
  have w4 : IntKind.i64.wrap (K : Int) = K := by rw [IntKind.wrap_i64]; omega
  rw [hd]
  obtain ⟨W0, hW0⟩ : ∃ W0, W0 = (w.alloc (.cells cs 98)).alloc (.cells coreZ 98) := ⟨_, rfl⟩
  have b0 : Bx W0 w.heap.size cs := by subst hW0; exact (Bx.new _ _ _ rfl).alloc _
  have b9 : Bx W0 (w.heap.size + 1) coreZ := by subst hW0; exact Bx.new _ _ _ (by simp)
  have hbe : Below w.heap.size w W0 := by subst hW0; exact ((Below.refl _ _).alloc (Nat.le_refl _) _).alloc (by simp) _
  obtain ⟨v13, e13⟩ : ∃ v, cs[13]? = some v := ⟨_, Array.getElem?_eq_getElem (by omega)⟩
  obtain ⟨v14, e14⟩ : ∃ v, cs[14]? = some v := ⟨_, Array.getElem?_eq_getElem (by omega)⟩
  have c8 : W0.cell? ⟨w.heap.size, 8, none⟩ = some (.int .i64 span) := (b0.c 8).trans h8
  have c13 : W0.cell? ⟨w.heap.size, 13, none⟩ = some v13 := (b0.c 13).trans e13
  have c14 : W0.cell? ⟨w.heap.size, 14, none⟩ = some v14 := (b0.c 14).trans e14
  have f13 := b0.f 13
  have f14 := b0.f 14
  have HW := Lib.hid hW0
  have B := Lib.hid (And.intro b0 (And.intro b9 (And.intro hbe (And.intro hs h1c))))
  clear hW0 b0 b9 hbe hd hK2 e13 e14 h8 hs h1c
  go_enter Tryz.func80, Tryz.ntmps80
  go_upto_region 1 with (fail)
  have HW' := HW.out
  unfold coreZ at HW'
  rw [← HW']
  clear HW'
  go_wp2_with fail
  go_region_law (fail)
  all_goals
    obtain ⟨W5, hW5⟩ : ∃ W5, W5 = ((W0.setCell ⟨w.heap.size, 13, none⟩ (.int .i64 0)).setCell ⟨w.heap.size, 14, none⟩ (.int .i64 (span + K))).drew := ⟨_, rfl⟩
    have x5 : Bx W5 w.heap.size ((cs.setIfInBounds 13 (.int .i64 0)).setIfInBounds 14 (.int .i64 (span + K))) := by
      subst hW5
      exact ((B.out.1.set 13 _).set 14 _).drew
    have y5 : Bx W5 (w.heap.size + 1) coreZ := by
      subst hW5
      exact ((B.out.2.1.far (by simp) _).far (by simp) _).drew
    have hb5 : Below w.heap.size w W5 := by
      subst hW5
      exact ((B.out.2.2.1.setCell (Nat.le_refl _) _).setCell (Nat.le_refl _) _).drew
    have hs5 : ((cs.setIfInBounds 13 (.int .i64 0)).setIfInBounds 14 (.int .i64 (span + K))).size = 19 := by simp [B.out.2.2.2.1]
    have h15 := one_set (one_set B.out.2.2.2.2 13 (v := .int .i64 0) rfl) 14 (v := .int .i64 (span + K)) rfl
    try rw [← hW5]
    obtain ⟨cs5, hcs5⟩ : ∃ cs5, cs5 = (cs.setIfInBounds 13 (.int .i64 0)).setIfInBounds 14 (.int .i64 (span + K)) := ⟨_, rfl⟩
    rw [← hcs5] at x5 hs5 h15
    have Hc := Lib.hid hcs5
    clear hcs5
    obtain ⟨tx, hx⟩ := x5.hp
    obtain ⟨ty, hy⟩ := y5.hp
    have hz1 : ¬ w.heap.size + 1 = w.heap.size := by omega
    have Z := Lib.hid (And.intro hx (And.intro hy (And.intro hs5 (And.intro h15 hb5))))
    have hi : (Tryz.prog.info? 98).map (·.size) = some cs5.size := by rw [hs5]; kernel_rfl
    have Hi := Lib.hid hi
    clear c8 c13 c14 f13 f14 hW5 x5 y5 hx hy hs5 h15 hb5 hi B HW
    go_wp2_with (first
      | (refine wpList_load_row rfl 98 _ rfl _ rfl _ _ _ _ Z.out.1 Tryz.underlying98 rfl Hi.out ?_)
      | (refine wpList_store_row rfl 98 _ _ rfl _ _ rfl rfl _ _ Z.out.2.1 Hi.out (Z.out.2.2.1.symm ▸ rfl) Z.out.2.2.2.1 ?_))
    refine bodyPost_ret (results_cell_row rfl _ _ (w.heap.size + 1) _ cs5 (0, 0) _ rfl (setRow_heap _ _ _ _ _ _ Z.out.2.1) Tryz.underlying98 rfl Hi.out) rfl ?_
    exact ⟨by rw [Hc.out], below_setRow Z.out.2.2.2.2 (by omega) _⟩
set_option maxHeartbeats 3200000 in
/-- The document's New: whether it can be. -/
def NewRPost (W : World) (id span draw : Int) (s : Sv) (e : Ending) (w' : World) : Prop :=
  ∃ cs : Array Value, cs.size = 19 ∧ cs.all (·.oneCell') = true ∧ (s.st.may = true → cs = #[.int .i64 s.tm, .int .i64 s.vt, .int .i64 s.b, .int .i64 s.t, .slice s.A s.n s.c, .slice s.C s.nc s.cc, .slice s.S s.ns s.cs, .int .i64 id, .int .i64 span, .int .i64 0, .int .i64 0, .int .i64 s.b, .int .i64 0, .int .i64 0, .int .i64 (drw span draw), .slice none 0 0, .slice none 0 0, .int .i64 0, .slice none 0 0]) ∧ e = .returned (.tuple #[.agg cs, .int .i64 (if s.st.may = true then 0 else 1)]) ∧ Below W.heap.size W w'
set_option maxHeartbeats 3200000 in
theorem newR_ok (id span draw : Int) (s : Sv) (w : World) {ok : Nat → Prop} (h : s.At w ok) (hf : s.Fit) (h1 : 1 ≤ id) (h2 : id ≤ 64) (h3 : 2 ≤ span) (h4 : span ≤ 1000) :
    Calls Tryz.prog 43 #[.int .i64 id, .int .i64 span, s.val, .int .i64 draw] w (NewRPost w id span draw s) := by
  obtain ⟨W0, hW0⟩ : ∃ W0, W0 = (w.alloc (.cells s.cells 50)).alloc (.cells coreZ 98) := ⟨_, rfl⟩
  have b0 : Bx W0 w.heap.size s.cells := by subst hW0; exact (Bx.new _ _ _ rfl).alloc _
  have b9 : Bx W0 (w.heap.size + 1) coreZ := by subst hW0; exact Bx.new _ _ _ (by simp)
  have hbe : Below w.heap.size w W0 := by subst hW0; exact ((Below.refl _ _).alloc (Nat.le_refl _) _).alloc (by simp) _
  have hz0 : W0.heap.size = w.heap.size + 2 := by subst hW0; simp
  have a0 := h.below hbe
  have hla := lastR_any s.b s.t s.A s.n s.c s.L W0 a0.l (h.wel hf) hf.z.1
  have hma := fun W (hb : Below W0.heap.size W0 W) => mayR_any s.b s.t s.A s.n s.c s.L W (a0.l.below hb) (h.wel hf) hf.z.1
  have hca := fun W (hb : Below W0.heap.size W0 W) => cmayR_any s.C s.nc s.cc s.cf W (a0.cf.below hb) hf.z.2.1
  have hra := fun W (hb : Below W0.heap.size W0 W) => readR_any s.A s.n s.c s.L W (a0.l.below hb) (fun y hy => ⟨((a0.d y hy).1.any).below hb, (a0.d y hy).2⟩) hf.z.1
  obtain ⟨q, hq⟩ : ∃ q, lmay s.b s.t (s.L.map en) = q := ⟨_, rfl⟩
  obtain ⟨y, hy⟩ : ∃ y, lstB s.t (s.L.map en) = y := ⟨_, rfl⟩
  have hS : s.st.may = (q && cmay s.cf && rdok s.L && decide (y ≤ s.tm) && decide (s.tm ≤ 1099511627776) && decide (0 ≤ s.vt) && decide (s.vt ≤ 64)) := by
    show St.may ⟨s.tm, s.vt, s.b, s.t, s.L.map en, s.cf, s.sn⟩ = _
    rw [← smay_st, smay, hq, hy]
  have hma' : ∀ W, Below W0.heap.size W0 W → Calls Tryz.prog 77 #[.agg #[.int .i64 s.b, .int .i64 s.t, .slice s.A s.n s.c]] W (BoolPost W q) := fun W hb => by rw [← hq]; exact hma W hb
  rw [hq, hy] at hla
  generalize lstA s.b (s.L.map en) = x at hla
  generalize cmay s.cf = p at hca hS
  generalize rdok s.L = r at hra hS
  obtain ⟨c0, c1, c2, c3, c4, c5, c6⟩ := Sv.c7 b0
  have g1 : decide (id < 1) = false := decide_eq_false (by omega)
  have g2 : decide (64 < id) = false := decide_eq_false (by omega)
  have g3 : decide (span < 2) = false := decide_eq_false (by omega)
  have g4 : decide (1000 < span) = false := decide_eq_false (by omega)
  have HW := Lib.hid hW0
  have B := Lib.hid (And.intro b0 (And.intro b9 (And.intro hbe hz0)))
  have Hla := Lib.hid hla
  have Hma := Lib.hid hma'
  have Hca := Lib.hid hca
  have Hra := Lib.hid hra
  have HS := Lib.hid hS
  clear hW0 b0 b9 hbe hz0 a0 hla hma hma' hca hra hS hq hy h
  unfold Sv.val stA
  go_enter Tryz.func43, Tryz.ntmps43
  go_upto_region 1 with (fail)
  have HW' := HW.out
  unfold Sv.cells coreZ at HW'
  rw [← HW']
  clear HW'
  cases q
  · go_wp2_with fail
    refine Hla.out.mono ?_
    rintro e w1 ⟨rfl, hb1⟩
    clear c0 c1 c2 c3 c4 c5 c6
    obtain ⟨c0, c1, c2, c3, c4, c5, c6⟩ := Sv.c7 (B.out.1.below hb1)
    go_wp2_with fail
    refine (Hma.out w1 hb1).mono ?_
    rintro e w2 ⟨rfl, hb2⟩
    have K2 := Lib.hid (hb1.trans (hb2.mono hb1.size))
    clear c0 c1 c2 c3 c4 c5 c6 hb1 hb2
    obtain ⟨ty, hy⟩ := (B.out.2.1.below K2.out).hp
    have hno : s.st.may = false := by rw [HS.out]; simp
    have Hno := Lib.hid hno
    have KB := Lib.hid (K2.out)
    have Hy := Lib.hid hy
    clear hy hno
    go_upto_region 3 with (fail)
    refine wp_region_lit ?_
    refine wpList_build rfl _ _ rfl (by kernel_rfl) ?_
    refine wpList_store_row rfl 98 _ _ rfl (w.heap.size + 1) coreZ (by rfl) (by kernel_rfl) _ _ Hy.out (by kernel_rfl) rfl coreZ_one ?_
    go_wp2_with fail
    refine bodyPost_ret (results_row_tmp rfl _ _ (w.heap.size + 1) _ coreZ (0, 0) _ rfl (setRow_heap _ _ _ _ _ _ Hy.out) Tryz.underlying98 rfl (by kernel_rfl)) rfl ?_
    refine ⟨coreZ, rfl, coreZ_one, fun h => (by rw [Hno.out] at h; cases h), ?_, ?_⟩
    · rw [if_neg (by rw [Hno.out]; decide)]; rfl
    · exact below_setRow (B.out.2.2.1.trans (KB.out.mono B.out.2.2.1.size)) (by omega) _
  · go_wp2_with fail
    refine Hla.out.mono ?_
    rintro e w1 ⟨rfl, hb1⟩
    clear c0 c1 c2 c3 c4 c5 c6
    obtain ⟨c0, c1, c2, c3, c4, c5, c6⟩ := Sv.c7 (B.out.1.below hb1)
    rw [if_pos (by trivial), if_pos (by trivial)]
    go_wp2_with fail
    refine (Hma.out w1 hb1).mono ?_
    rintro e w2 ⟨rfl, hb2⟩
    have K2 := Lib.hid (hb1.trans (hb2.mono hb1.size))
    clear c0 c1 c2 c3 c4 c5 c6 hb1 hb2
    obtain ⟨c0, c1, c2, c3, c4, c5, c6⟩ := Sv.c7 (B.out.1.below K2.out)
    go_wp2_with fail
    refine (Hca.out w2 K2.out).mono ?_
    rintro e w3 ⟨rfl, hb3⟩
    have K3 := Lib.hid (K2.out.trans (hb3.mono K2.out.size))
    clear c0 c1 c2 c3 c4 c5 c6 hb3
    obtain ⟨c0, c1, c2, c3, c4, c5, c6⟩ := Sv.c7 (B.out.1.below K3.out)
    cases p
    · skip
      obtain ⟨ty, hy⟩ := (B.out.2.1.below K3.out).hp
      have hno : s.st.may = false := by rw [HS.out]; simp
      have Hno := Lib.hid hno
      have KB := Lib.hid (K3.out)
      have Hy := Lib.hid hy
      clear hy hno
      go_upto_region 3 with (fail)
      refine wp_region_lit ?_
      refine wpList_build rfl _ _ rfl (by kernel_rfl) ?_
      refine wpList_store_row rfl 98 _ _ rfl (w.heap.size + 1) coreZ (by rfl) (by kernel_rfl) _ _ Hy.out (by kernel_rfl) rfl coreZ_one ?_
      go_wp2_with fail
      refine bodyPost_ret (results_row_tmp rfl _ _ (w.heap.size + 1) _ coreZ (0, 0) _ rfl (setRow_heap _ _ _ _ _ _ Hy.out) Tryz.underlying98 rfl (by kernel_rfl)) rfl ?_
      refine ⟨coreZ, rfl, coreZ_one, fun h => (by rw [Hno.out] at h; cases h), ?_, ?_⟩
      · rw [if_neg (by rw [Hno.out]; decide)]; rfl
      · exact below_setRow (B.out.2.2.1.trans (KB.out.mono B.out.2.2.1.size)) (by omega) _
    go_wp2_with fail
    refine (Hra.out w3 K3.out).mono ?_
    rintro e w4 ⟨rfl, hb4⟩
    have K4 := Lib.hid (K3.out.trans (hb4.mono K3.out.size))
    clear c0 c1 c2 c3 c4 c5 c6 hb4
    obtain ⟨c0, c1, c2, c3, c4, c5, c6⟩ := Sv.c7 (B.out.1.below K4.out)
    cases r
    · skip
      obtain ⟨ty, hy⟩ := (B.out.2.1.below K4.out).hp
      have hno : s.st.may = false := by rw [HS.out]; simp
      have Hno := Lib.hid hno
      have KB := Lib.hid (K4.out)
      have Hy := Lib.hid hy
      clear hy hno
      go_upto_region 3 with (fail)
      refine wp_region_lit ?_
      refine wpList_build rfl _ _ rfl (by kernel_rfl) ?_
      refine wpList_store_row rfl 98 _ _ rfl (w.heap.size + 1) coreZ (by rfl) (by kernel_rfl) _ _ Hy.out (by kernel_rfl) rfl coreZ_one ?_
      go_wp2_with fail
      refine bodyPost_ret (results_row_tmp rfl _ _ (w.heap.size + 1) _ coreZ (0, 0) _ rfl (setRow_heap _ _ _ _ _ _ Hy.out) Tryz.underlying98 rfl (by kernel_rfl)) rfl ?_
      refine ⟨coreZ, rfl, coreZ_one, fun h => (by rw [Hno.out] at h; cases h), ?_, ?_⟩
      · rw [if_neg (by rw [Hno.out]; decide)]; rfl
      · exact below_setRow (B.out.2.2.1.trans (KB.out.mono B.out.2.2.1.size)) (by omega) _
    by_cases k1 : y ≤ s.tm
    · by_cases k2 : s.tm ≤ 1099511627776
      · by_cases k3 : 0 ≤ s.vt
        · by_cases k4 : s.vt ≤ 64
          · have hyes : s.st.may = true := by rw [HS.out]; simp [k1, k2, k3, k4]
            have Hyes := Lib.hid hyes
            clear hyes
            have k1d : decide (s.tm < y) = false := decide_eq_false (by omega)
            have k2d : decide (1099511627776 < s.tm) = false := decide_eq_false (by omega)
            have k3d : decide (s.vt < 0) = false := decide_eq_false (by omega)
            have k4d : decide (64 < s.vt) = false := decide_eq_false (by omega)
            go_upto_region 4 with (fail)
            go_wp2_with fail
            refine (drawsR_any #[.int .i64 s.tm, .int .i64 s.vt, .int .i64 s.b, .int .i64 s.t, .slice s.A s.n s.c, .slice s.C s.nc s.cc, .slice s.S s.ns s.cs, .int .i64 id, .int .i64 span, .int .i64 0, .int .i64 0, .int .i64 s.b, .int .i64 0, .int .i64 0, .int .i64 0, .slice none 0 0, .slice none 0 0, .int .i64 0, .slice none 0 0] span draw w4 rfl (by simp [Value.oneCell']) rfl h3 h4).mono ?_
            rintro e w5 ⟨rfl, hb5⟩
            have K5 := Lib.hid (K4.out.trans (hb5.mono K4.out.size))
            obtain ⟨ty, hy⟩ := (B.out.2.1.below K5.out).hp
            have Hy := Lib.hid hy
            obtain ⟨cs6, hcs6⟩ : ∃ cs6 : Array Value, cs6 = #[.int .i64 s.tm, .int .i64 s.vt, .int .i64 s.b, .int .i64 s.t, .slice s.A s.n s.c, .slice s.C s.nc s.cc, .slice s.S s.ns s.cs, .int .i64 id, .int .i64 span, .int .i64 0, .int .i64 0, .int .i64 s.b, .int .i64 0, .int .i64 0, .int .i64 (drw span draw), .slice none 0 0, .slice none 0 0, .int .i64 0, .slice none 0 0] := ⟨_, rfl⟩
            have hs6 : cs6.size = 19 := by rw [hcs6]; rfl
            have h16 : cs6.all (·.oneCell') = true := by rw [hcs6]; simp [Value.oneCell']
            have hi6 : (Tryz.prog.info? 98).map (·.size) = some cs6.size := by rw [hs6]; kernel_rfl
            have H6 := Lib.hid (And.intro hcs6 (And.intro hs6 (And.intro h16 hi6)))
            rw [show ((#[Value.int .i64 s.tm, .int .i64 s.vt, .int .i64 s.b, .int .i64 s.t, .slice s.A s.n s.c, .slice s.C s.nc s.cc, .slice s.S s.ns s.cs, .int .i64 id, .int .i64 span, .int .i64 0, .int .i64 0, .int .i64 s.b, .int .i64 0, .int .i64 0, .int .i64 0, .slice none 0 0, .slice none 0 0, .int .i64 0, .slice none 0 0].setIfInBounds 13 (.int .i64 0)).setIfInBounds 14 (.int .i64 (drw span draw))) = cs6 from hcs6.symm]
            dsimp only
            clear hcs6 hs6 h16 hi6 hy c0 c1 c2 c3 c4 c5 c6
            go_wp2_with (refine wpList_store_row rfl 98 _ _ rfl _ _ rfl rfl _ _ Hy.out H6.out.2.2.2 (H6.out.2.1.symm ▸ rfl) H6.out.2.2.1 ?_)
            refine bodyPost_ret (results_row_tmp rfl _ _ (w.heap.size + 1) _ cs6 (0, 0) _ rfl (setRow_heap _ _ _ _ _ _ Hy.out) Tryz.underlying98 rfl H6.out.2.2.2) rfl ?_
            refine ⟨cs6, H6.out.2.1, H6.out.2.2.1, fun _ => H6.out.1, ?_, ?_⟩
            · rw [if_pos Hyes.out]; rfl
            · exact below_setRow (B.out.2.2.1.trans (K5.out.mono B.out.2.2.1.size)) (by omega) _
          · have h4d : decide (64 < s.vt) = true := decide_eq_true (by omega)
            obtain ⟨ty, hy⟩ := (B.out.2.1.below K4.out).hp
            have hno : s.st.may = false := by rw [HS.out]; simp [k4]
            have Hno := Lib.hid hno
            have KB := Lib.hid (K4.out)
            have Hy := Lib.hid hy
            clear hy hno
            go_upto_region 3 with (fail)
            refine wp_region_lit ?_
            refine wpList_build rfl _ _ rfl (by kernel_rfl) ?_
            refine wpList_store_row rfl 98 _ _ rfl (w.heap.size + 1) coreZ (by rfl) (by kernel_rfl) _ _ Hy.out (by kernel_rfl) rfl coreZ_one ?_
            go_wp2_with fail
            refine bodyPost_ret (results_row_tmp rfl _ _ (w.heap.size + 1) _ coreZ (0, 0) _ rfl (setRow_heap _ _ _ _ _ _ Hy.out) Tryz.underlying98 rfl (by kernel_rfl)) rfl ?_
            refine ⟨coreZ, rfl, coreZ_one, fun h => (by rw [Hno.out] at h; cases h), ?_, ?_⟩
            · rw [if_neg (by rw [Hno.out]; decide)]; rfl
            · exact below_setRow (B.out.2.2.1.trans (KB.out.mono B.out.2.2.1.size)) (by omega) _
        · have h3d : decide (s.vt < 0) = true := decide_eq_true (by omega)
          obtain ⟨ty, hy⟩ := (B.out.2.1.below K4.out).hp
          have hno : s.st.may = false := by rw [HS.out]; simp [k3]
          have Hno := Lib.hid hno
          have KB := Lib.hid (K4.out)
          have Hy := Lib.hid hy
          clear hy hno
          go_upto_region 3 with (fail)
          refine wp_region_lit ?_
          refine wpList_build rfl _ _ rfl (by kernel_rfl) ?_
          refine wpList_store_row rfl 98 _ _ rfl (w.heap.size + 1) coreZ (by rfl) (by kernel_rfl) _ _ Hy.out (by kernel_rfl) rfl coreZ_one ?_
          go_wp2_with fail
          refine bodyPost_ret (results_row_tmp rfl _ _ (w.heap.size + 1) _ coreZ (0, 0) _ rfl (setRow_heap _ _ _ _ _ _ Hy.out) Tryz.underlying98 rfl (by kernel_rfl)) rfl ?_
          refine ⟨coreZ, rfl, coreZ_one, fun h => (by rw [Hno.out] at h; cases h), ?_, ?_⟩
          · rw [if_neg (by rw [Hno.out]; decide)]; rfl
          · exact below_setRow (B.out.2.2.1.trans (KB.out.mono B.out.2.2.1.size)) (by omega) _
      · have h2d : decide (1099511627776 < s.tm) = true := decide_eq_true (by omega)
        obtain ⟨ty, hy⟩ := (B.out.2.1.below K4.out).hp
        have hno : s.st.may = false := by rw [HS.out]; simp [k2]
        have Hno := Lib.hid hno
        have KB := Lib.hid (K4.out)
        have Hy := Lib.hid hy
        clear hy hno
        go_upto_region 3 with (fail)
        refine wp_region_lit ?_
        refine wpList_build rfl _ _ rfl (by kernel_rfl) ?_
        refine wpList_store_row rfl 98 _ _ rfl (w.heap.size + 1) coreZ (by rfl) (by kernel_rfl) _ _ Hy.out (by kernel_rfl) rfl coreZ_one ?_
        go_wp2_with fail
        refine bodyPost_ret (results_row_tmp rfl _ _ (w.heap.size + 1) _ coreZ (0, 0) _ rfl (setRow_heap _ _ _ _ _ _ Hy.out) Tryz.underlying98 rfl (by kernel_rfl)) rfl ?_
        refine ⟨coreZ, rfl, coreZ_one, fun h => (by rw [Hno.out] at h; cases h), ?_, ?_⟩
        · rw [if_neg (by rw [Hno.out]; decide)]; rfl
        · exact below_setRow (B.out.2.2.1.trans (KB.out.mono B.out.2.2.1.size)) (by omega) _
    · have h1d : decide (s.tm < y) = true := decide_eq_true (by omega)
      obtain ⟨ty, hy⟩ := (B.out.2.1.below K4.out).hp
      have hno : s.st.may = false := by rw [HS.out]; simp [k1]
      have Hno := Lib.hid hno
      have KB := Lib.hid (K4.out)
      have Hy := Lib.hid hy
      clear hy hno
      go_upto_region 3 with (fail)
      refine wp_region_lit ?_
      refine wpList_build rfl _ _ rfl (by kernel_rfl) ?_
      refine wpList_store_row rfl 98 _ _ rfl (w.heap.size + 1) coreZ (by rfl) (by kernel_rfl) _ _ Hy.out (by kernel_rfl) rfl coreZ_one ?_
      go_wp2_with fail
      refine bodyPost_ret (results_row_tmp rfl _ _ (w.heap.size + 1) _ coreZ (0, 0) _ rfl (setRow_heap _ _ _ _ _ _ Hy.out) Tryz.underlying98 rfl (by kernel_rfl)) rfl ?_
      refine ⟨coreZ, rfl, coreZ_one, fun h => (by rw [Hno.out] at h; cases h), ?_, ?_⟩
      · rw [if_neg (by rw [Hno.out]; decide)]; rfl
      · exact below_setRow (B.out.2.2.1.trans (KB.out.mono B.out.2.2.1.size)) (by omega) _
end Go.Proofs.YtlecglmiigdjlaaGreatDoor
namespace Go.Proofs.YtlecglmiigdjlaaGreatDoor
open Go.RowKit
set_option maxRecDepth 100000
set_option linter.unusedVariables false
set_option linter.unusedSimpArgs false
def BlankP (W : World) (z : Nat) (e : Ending) (w' : World) : Prop := ∃ L g, e = .returned (.pointer (some ⟨g, 0, none⟩)) ∧ DX w' L g (Dk.make z) z ∧ (∀ b, L b → W.heap.size ≤ b) ∧ Below W.heap.size W w'
theorem blank_any (z : Nat) (h1 : 1 ≤ z) (h2 : z ≤ 4194304) (w : World) : Calls Tryz.prog 11 #[.int .i64 z] w (BlankP w z) := by
  have hn := dnew_any z h1 h2 w
  have Hn := Lib.hid hn
  clear hn
  go_enter Tryz.func11, Tryz.ntmps11
  go_wp2_with fail
  refine Hn.out.mono ?_
  rintro e w1 ⟨L, g, rfl, hd, hl, hb⟩
  have H := Lib.hid (And.intro hd (And.intro hl hb))
  clear hd hl hb
  go_wp2_with fail
  go_ret
  exact ⟨L, g, rfl, H.out.1, H.out.2.1, H.out.2.2⟩
theorem lown_any (A : Option Addr) (n c : Nat) (l : List Int) (w : World) {ok : Nat → Prop} (hr : Rd w ok 1 A n (ii l)) (hn : n ≤ 1000000) :
    Calls Tryz.prog 13 #[.slice A n c] w (OwnPost w n l) := by
  go_enter Tryz.func13, Tryz.ntmps13
  go_wp2_with (at_builtin; refine wpList_append_any _ Tryz.underlying22 int_elem rfl (by omega) rfl rfl rfl (World.ownsRow_nil w w.heap.size 3 1) rfl hr (ii_one l) (by omega) (by simp) (Nat.zero_add _) (List.nil_append _) ?_; intro A1 c1 w1 hown1 hg1 hat1)
  go_ret
  exact ⟨_, _, rfl, hown1, (Below.refl _ _).grown hg1 (Nat.le_refl _) (fun q hq => by cases hq)⟩
set_option maxHeartbeats 1600000 in
theorem lright_any (s : Sv) (w : World) {ok : Nat → Prop} (h : s.At w ok) (hf : s.Fit) :
    Calls Tryz.prog 18 #[s.val] w (BoolPost w s.st.may) := by
  obtain ⟨W0, hW0⟩ : ∃ W0, W0 = w.alloc (.cells s.cells 50) := ⟨_, rfl⟩
  have b0 : Bx W0 w.heap.size s.cells := by subst hW0; exact Bx.new _ _ _ rfl
  have hbe : Below w.heap.size w W0 := by subst hW0; exact (Below.refl _ _).alloc (Nat.le_refl _) _
  have hnw := newR_ok 1 2 0 s W0 (h.below hbe) hf (by omega) (by omega) (by omega) (by omega)
  obtain ⟨c0, c1, c2, c3, c4, c5, c6⟩ := Sv.c7 b0
  have HW := Lib.hid hW0
  have B := Lib.hid hbe
  have Hnw := Lib.hid hnw
  clear hW0 b0 hbe hnw h hf
  unfold Sv.val stA
  go_enter Tryz.func18, Tryz.ntmps18
  go_upto_region 1 with (fail)
  have HW' := HW.out
  unfold Sv.cells at HW'
  rw [← HW']
  clear HW'
  go_wp2_with fail
  refine Hnw.out.mono ?_
  rintro e w1 ⟨cs, hs, h1, -, rfl, hb1⟩
  have K := Lib.hid (And.intro hs (And.intro h1 (B.out.trans (hb1.mono B.out.size))))
  have hi : (Tryz.prog.info? 98).map (·.size) = some cs.size := by rw [hs]; kernel_rfl
  have Hi := Lib.hid hi
  obtain ⟨q, hq⟩ : ∃ q, s.st.may = q := ⟨_, rfl⟩
  have Hq := Lib.hid hq
  rw [hq]
  clear hs h1 hb1 hi hq c0 c1 c2 c3 c4 c5 c6
  cases q
  all_goals
    go_wp2_with (refine wpList_store_row rfl 98 _ _ rfl w1.heap.size cs rfl rfl _ coreZ (heap_alloc_new _ _) Hi.out (K.out.1.symm ▸ rfl) K.out.2.1 ?_)
    go_ret
    exact ⟨by rw [Hq.out]; rfl, below_setRow (K.out.2.2.alloc K.out.2.2.size _) K.out.2.2.size _⟩
end Go.Proofs.YtlecglmiigdjlaaGreatDoor
namespace Go.Proofs.YtlecglmiigdjlaaGreatDoor
open Go.RowKit
set_option linter.unusedVariables false
set_option linter.unusedSimpArgs false
set_option maxRecDepth 100000
theorem ints_short (A : Option Addr) (n c : Nat) (B : Option Addr) (m d : Nat) (w : World) (h : ((n : Int) != (m : Int)) = true) :
    Calls Tryz.prog 31 #[.slice A n c, .slice B m d] w (BoolPost w false) := by
  go_enter Tryz.func31, Tryz.ntmps31
  go_wp2_with fail
  go_ret
  exact ⟨rfl, Below.refl _ _⟩
set_option maxHeartbeats 800000 in
theorem ints_same (A : Option Addr) (n c : Nat) (B : Option Addr) (d : Nat) (xs ys : List Int) (w : World) {ok ok' : Nat → Prop} (hx : Rd w ok 1 A n (ii xs)) (hy : Rd w ok' 1 B n (ii ys)) (hn : n ≤ 9223372036854775807) :
    Calls Tryz.prog 31 #[.slice A n c, .slice B n d] w (BoolPost w (decide (xs = ys))) := by
  have hlx : xs.length = n := by have := hx.1; simpa [ii] using this
  have hly : ys.length = n := by have := hy.1; simpa [ii] using this
  have Hlx := Lib.hid hlx
  have Hly := Lib.hid hly
  have hne : ((n : Int) != (n : Int)) = false := by simp
  clear hlx hly
  go_enter Tryz.func31, Tryz.ntmps31
  go_wp2_with fail
  go_loopg [5] n (fun k s5 wr => ∃ j : Nat, k = n - j ∧ j ≤ n ∧ s5 = .int .i64 j ∧ xs.take j = ys.take j ∧ Below w.heap.size w wr)
  case atStart => exact ⟨0, by omega, by omega, rfl, rfl, Below.refl _ _⟩
  case round =>
    obtain ⟨j, hk, hj, rfl, heq, hb⟩ := hrel
    have Hk := Lib.hid hk
    have Heq := Lib.hid heq
    clear hk heq
    by_cases hlt : j < n
    · obtain ⟨b1, o1, z1, rfl, _, _, hz1, hc1⟩ := ii_cell (hx.below hb) hlt
      obtain ⟨b2, o2, z2, rfl, _, _, hz2, hc2⟩ := ii_cell (hy.below hb) hlt
      have Hz1 := Lib.hid hz1
      have Hz2 := Lib.hid hz2
      clear hz1 hz2
      have hjn : (j : Int) < n := by omega
      have h0j : (0 : Int) ≤ j := by omega
      by_cases hzz : z1 = z2
      · subst hzz
        have hs : xs.take (j + 1) = ys.take (j + 1) := by rw [List.take_add_one, List.take_add_one, Hz1.out, Hz2.out, Heq.out]
        have Hs := Lib.hid hs
        have hzf : ((z1 : Int) != z1) = false := by simp
        clear hs
        go_wp2_with fail
        go_region
        all_goals
          go_wp2_with fail
          go_roundg (n - (j + 1))
          case measure => have := Hk.out; omega
          case rel => exact ⟨j + 1, rfl, by omega, by go_num, Hs.out, hb.drew⟩
      · have hzf : ((z1 : Int) != z2) = true := by simpa using hzz
        have hne2 : decide (xs = ys) = false := decide_eq_false (by
          intro h
          subst h
          rw [Hz1.out] at Hz2
          exact hzz (Option.some.inj Hz2.out))
        have Hne2 := Lib.hid hne2
        clear hne2 hzz
        go_wp2_with fail
        go_region
        all_goals
          go_wp2_with fail
          go_ret
          exact ⟨ret_bool Hne2.out.symm, hb.drew⟩
    · obtain rfl : j = n := by omega
      have hyes : decide (xs = ys) = true := decide_eq_true (by
        have := Heq.out
        rwa [List.take_of_length_le (Nat.le_of_eq Hlx.out), List.take_of_length_le (Nat.le_of_eq Hly.out)] at this)
      have Hyes := Lib.hid hyes
      clear hyes
      go_wp2_with fail
      go_ret
      exact ⟨ret_bool Hyes.out.symm, hb⟩
theorem ints_any (A : Option Addr) (n c : Nat) (B : Option Addr) (m d : Nat) (xs ys : List Int) (w : World) {ok ok' : Nat → Prop} (hx : Rd w ok 1 A n (ii xs)) (hy : Rd w ok' 1 B m (ii ys)) (hn : n ≤ 9223372036854775807) :
    Calls Tryz.prog 31 #[.slice A n c, .slice B m d] w (BoolPost w (decide (xs = ys))) := by
  have hlx : xs.length = n := by have := hx.1; simpa [ii] using this
  have hly : ys.length = m := by have := hy.1; simpa [ii] using this
  by_cases h : n = m
  · subst h
    exact ints_same A n c B d xs ys w hx hy hn
  · rw [decide_eq_false (fun e => h (by rw [← hlx, ← hly, e]))]
    exact ints_short A n c B m d w (by simp; omega)
end Go.Proofs.YtlecglmiigdjlaaGreatDoor
