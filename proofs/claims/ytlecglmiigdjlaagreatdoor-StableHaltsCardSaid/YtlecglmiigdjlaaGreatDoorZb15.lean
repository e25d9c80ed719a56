/- Numbers as the walk spells them.
   Walk: a member's wait is drawn: (*raft.Core).draws.
   Walk: a member, from what it kept: raft.New.
   Walk: whether something can be kept: stable.may.
   Wide structs, loaded and stored whole: their cells stay one word. -/
import Derived.WalkKit
import Derived.Test.YtlecglmiigdjlaaGreatDoorZb8
import Derived.Test.YtlecglmiigdjlaaGreatDoorZb12
import Derived.Test.YtlecglmiigdjlaaGreatDoorZb14
import Derived.Test.YtlecglmiigdjlaaGreatDoorZb0
import Derived.Laws.Rows
import Derived.Laws.Tables
namespace Go.Proofs.YtlecglmiigdjlaaGreatDoor
open Go.RowKit
theorem u64_wrap (z : Int) : IntKind.u64.wrap z = z % 18446744073709551616 := by
  simp [IntKind.wrap, IntKind.signed, IntKind.bits]
/-- 'int(uint(z) % d)'. -/
theorem uint_mod (z : Int) (d : Nat) (dI : Int) (hdI : dI = d) (h1 : 1 ≤ d) (h2 : d ≤ 1000000) : ∃ K : Nat, K < d ∧ (K : Int) = (z % 18446744073709551616) % d ∧ (IntKind.u64.wrap z).tmod dI = K ∧ wrap64 ((IntKind.u64.wrap z).tmod dI) = K := by
  subst hdI
  have h0 : 0 ≤ z % 18446744073709551616 := Int.emod_nonneg _ (by decide)
  have hd : 0 ≤ (z % 18446744073709551616) % (d : Int) := Int.emod_nonneg _ (by omega)
  have hl : (z % 18446744073709551616) % (d : Int) < d := Int.emod_lt_of_pos _ (by omega)
  have e : (IntKind.u64.wrap z).tmod (d : Int) = (((z % 18446744073709551616) % (d : Int)).toNat : Int) := by
    rw [u64_wrap, Int.tmod_eq_emod_of_nonneg h0, Int.toNat_of_nonneg hd]
  have e2 : wrap64 ((((z % 18446744073709551616) % (d : Int)).toNat : Nat) : Int) = (((z % 18446744073709551616) % (d : Int)).toNat : Int) := IntWalk.wrap64_in _ ⟨by omega, by omega⟩
  exact ⟨((z % 18446744073709551616) % (d : Int)).toNat, by omega, by omega, e, by rw [e, e2]⟩
/-- '1 + int(uint(z) % d)'. -/
theorem one_uint_mod (z : Int) (d : Nat) (dI : Int) (hdI : dI = d) (h1 : 1 ≤ d) (h2 : d ≤ 1000000) : ∃ K : Nat, 1 ≤ K ∧ K ≤ d ∧ (K : Int) = 1 + (z % 18446744073709551616) % d ∧ wrap64 (1 + wrap64 ((IntKind.u64.wrap z).tmod dI)) = K := by
  obtain ⟨K, h3, h4, _, h5⟩ := uint_mod z d dI hdI h1 h2
  refine ⟨1 + K, by omega, by omega, by omega, ?_⟩
  rw [h5, IntWalk.wrap64_in _ ⟨by omega, by omega⟩]
  omega
end Go.Proofs.YtlecglmiigdjlaaGreatDoor
namespace Go.Proofs.YtlecglmiigdjlaaGreatDoor
open Go.RowKit
set_option maxRecDepth 100000
set_option linter.unusedVariables false
set_option linter.unusedSimpArgs false
/-- The wait that a draw gives. -/
def drw (span draw : Int) : Int := span + (draw % 18446744073709551616) % ((span.toNat + 1 : Nat) : Int)
set_option maxHeartbeats 1600000 in
theorem draws_any (p : Nat) (cs : Array Value) (span draw : Int) (w : World) (h : Bx w p cs) (hc : cs[12]? = some (.int .i64 span)) (hz : 14 < cs.size) (h1 : 2 ≤ span) (h2 : span ≤ 1000) :
    Calls Tryz.prog 95 #[.pointer (some ⟨p, 0, none⟩), .int .i64 draw] w (fun e w' => e = .returned (.tuple #[]) ∧ Bx w' p ((cs.setIfInBounds 13 (.int .i64 0)).setIfInBounds 14 (.int .i64 (drw span draw))) ∧ w.grownBy w' (some p)) := by
  obtain ⟨K, hK1, hK2, hK3, hK4⟩ := uint_mod draw (span.toNat + 1) (span + 1) (by omega) (by omega) (by omega)
  have hd : drw span draw = span + K := by unfold drw; rw [hK2]
  have c12 : w.cell? ⟨p, 12, none⟩ = some (.int .i64 span) := (h.c 12).trans hc
  have f13 : w.frozen? ⟨p, 13, none⟩ = false := h.f 13
  have f14 : w.frozen? ⟨p, 14, none⟩ = false := h.f 14
  have w1 : IntKind.i64.wrap (span + 1) = span + 1 := by rw [IntKind.wrap_i64]; omega
  have w2 : IntKind.u64.wrap (span + 1) = span + 1 := by rw [IntKind.wrap_u64]; omega
  have w3 : IntKind.i64.wrap (span + K) = span + K := by rw [IntKind.wrap_i64]; omega
  have hne : ¬ span + 1 = 0 := by omega
  have w4 : IntKind.i64.wrap (K : Int) = K := by rw [IntKind.wrap_i64]; omega
  obtain ⟨v13, e13⟩ : ∃ v, cs[13]? = some v := ⟨_, Array.getElem?_eq_getElem (by omega)⟩
  obtain ⟨v14, e14⟩ : ∃ v, cs[14]? = some v := ⟨_, Array.getElem?_eq_getElem (by omega)⟩
  have c13 : w.cell? ⟨p, 13, none⟩ = some v13 := (h.c 13).trans e13
  have c14 : w.cell? ⟨p, 14, none⟩ = some v14 := (h.c 14).trans e14
  clear e13 e14
  rw [hd]
  have H := Lib.hid h
  clear h hc hd hK2
  go_enter Tryz.func95, Tryz.ntmps95
  go_region_law (fail)
  all_goals
    go_wp2_with fail
    refine bodyPost_end (results_none rfl _ _ _) (by rfl) ?_
    exact ⟨rfl, ((H.out.set 13 _).set 14 _).drew, gb_trans (gb_trans (gb_set _ p 13 _) (gb_set _ p 14 _)) (below_gb (Below.refl _ _).drew)⟩
end Go.Proofs.YtlecglmiigdjlaaGreatDoor
namespace Go.Proofs.YtlecglmiigdjlaaGreatDoor
open Go.RowKit
set_option maxRecDepth 100000
set_option linter.unusedVariables false
set_option linter.unusedSimpArgs false
theorem smay_sv (s : Sv) (w : World) {ok : Nat → Prop} (h : s.At w ok) (hf : s.Fit) (hev : EvW w w.heap.size) :
    Calls Tryz.prog 93 #[s.val] w (BoolPost w s.st.may) := by
  have := smay_any s.tm s.vt s.b s.t s.A s.n s.c s.L s.C s.nc s.cc s.cf s.S s.ns s.cs w h.l.any h.dat (h.wel hf) hf.z.1 h.cf.any hf.z.2.1 hev
  rw [smay_st _ _ _ _ _ _ s.sn] at this
  exact this
/-- A member's cells. -/
def coreC (s : Sv) (role leader commit round id span gone wait : Int) (votes : Value) (pm : Nat) (key : Int) (have_ : Value) : Array Value :=
  #[.int .i64 s.tm, .int .i64 s.vt, .int .i64 s.b, .int .i64 s.t, .slice s.A s.n s.c, .slice s.C s.nc s.cc, .slice s.S s.ns s.cs, .int .i64 role, .int .i64 leader, .int .i64 commit, .int .i64 round, .int .i64 id, .int .i64 span, .int .i64 gone, .int .i64 wait, votes, .map (some pm), .int .i64 key, have_]
def NewPost (W : World) (id span draw : Int) (s : St) (e : Ending) (w' : World) : Prop :=
  if s.may = true then ∃ (p : Nat) (s' : Sv), e = .returned (.tuple #[.pointer (some ⟨p + 1, 0, none⟩), .nilIface]) ∧ Bx w' (p + 1) (coreC s' 0 0 s.b 0 id span 0 (drw span draw) (.slice none 0 0) p 0 (.slice none 0 0)) ∧ s'.At w' (fun b => W.heap.size ≤ b ∧ b < p) ∧ s'.st = s ∧ W.heap.size ≤ p ∧ w'.heap[p]? = some (.map #[] 0) ∧ Below W.heap.size W w'
  else e = .returned (.tuple #[.pointer none, .iface 69 (.int .i64 1)]) ∧ Below W.heap.size W w'
set_option maxHeartbeats 3200000 in
theorem new_ok (id span draw : Int) (s : Sv) (w : World) {ok : Nat → Prop} (h : s.At w ok) (hf : s.Fit) (hev : EvW w w.heap.size) (h1 : 1 ≤ id) (h2 : id ≤ 64) (h3 : 2 ≤ span) (h4 : span ≤ 1000) :
    Calls Tryz.prog 67 #[.int .i64 id, .int .i64 span, s.val, .int .i64 draw] w (NewPost w id span draw s.st) := by
  obtain ⟨W0, hW0⟩ : ∃ W0, W0 = w.alloc (.cells s.cells 35) := ⟨_, rfl⟩
  have b0 : Bx W0 w.heap.size s.cells := by subst hW0; exact Bx.new _ _ _ rfl
  have hbe : Below w.heap.size w W0 := by subst hW0; exact (Below.refl _ _).alloc (Nat.le_refl _) _
  have hz0 : W0.heap.size = w.heap.size + 1 := by subst hW0; simp
  have hmy := smay_sv s W0 (h.below hbe) hf (hev.below hbe (Nat.le_refl _) |>.mono (by omega))
  have how := fun W (hb : Below W0.heap.size W0 W) (hm : lmay s.b s.t (s.L.map en) = true) => sown_sv s W ((h.below hbe).below hb) hf hm
  have hlm : s.st.may = true → lmay s.b s.t (s.L.map en) = true := fun hm => (St.may_iff hm).1
  obtain ⟨q, hq⟩ : ∃ q, s.st.may = q := ⟨_, rfl⟩
  rw [hq] at hmy hlm
  obtain ⟨c0, c1, c2, c3, c4, c5, c6⟩ := b0.c7
  have hdr := fun p cs W (h : Bx W p cs) (hc : cs[12]? = some (.int .i64 span)) (hz : 14 < cs.size) => draws_any p cs span draw W h hc hz h3 h4
  have hmm := @run_makeMap Tryz.prog
  have g1 : decide (id < 1) = false := decide_eq_false (by omega)
  have g2 : decide (64 < id) = false := decide_eq_false (by omega)
  have g3 : decide (span < 2) = false := decide_eq_false (by omega)
  have g4 : decide (1000 < span) = false := decide_eq_false (by omega)
  have HW := Lib.hid hW0
  have B := Lib.hid (And.intro b0 (And.intro hbe hz0))
  have Hmy := Lib.hid hmy
  have How := Lib.hid how
  have Hlm := Lib.hid hlm
  have Hq := Lib.hid hq
  have Hdr := Lib.hid hdr
  clear hW0 b0 hbe hz0 hmy how hlm hq hdr h hf hev
  unfold Sv.val stA
  go_enter Tryz.func67, Tryz.ntmps67
  go_upto_region 1 with (fail)
  have HW' := HW.out
  unfold Sv.cells at HW'
  rw [← HW']
  clear HW'
  go_wp2_with fail
  refine Hmy.out.mono ?_
  rintro e w1 ⟨rfl, hb1⟩
  clear c0 c1 c2 c3 c4 c5 c6
  obtain ⟨c0, c1, c2, c3, c4, c5, c6⟩ := (B.out.1.below hb1).c7
  cases q
  · go_wp2_with fail
    go_ret2
    unfold NewPost
    rw [if_neg (by rw [Hq.out]; decide)]
    exact ⟨rfl, B.out.2.1.trans (hb1.mono B.out.2.1.size)⟩
  · go_wp2_with fail
    refine (How.out w1 hb1 (Hlm.out (by trivial))).mono ?_
    rintro e w2 ⟨s', rfl, a2, e2, hb2⟩
    have A2 := Lib.hid (And.intro a2 (And.intro e2 (And.intro hb1 hb2)))
    clear c0 c1 c2 c3 c4 c5 c6
    obtain ⟨c0, c1, c2, c3, c4, c5, c6⟩ := ((B.out.1.below hb1).below hb2).c7
    clear a2 e2 hb1 hb2
    unfold Sv.val stA
    go_upto_region 4 with (fail)
    obtain ⟨W3, hW3⟩ : ∃ W3, W3 = (w2.alloc (.map #[] 0)).alloc (.cells (coreC s' 0 0 0 0 id span 0 0 (.slice none 0 0) w2.heap.size 0 (.slice none 0 0)) 191) := ⟨_, rfl⟩
    have x3 : Bx W3 (w2.heap.size + 1) (coreC s' 0 0 0 0 id span 0 0 (.slice none 0 0) w2.heap.size 0 (.slice none 0 0)) := by subst hW3; exact Bx.new _ _ _ (by simp)
    have hb3 : Below w2.heap.size w2 W3 := by subst hW3; exact ((Below.refl _ _).alloc (Nat.le_refl _) _).alloc (by simp) _
    have hm3 : W3.heap[w2.heap.size]? = some (.map #[] 0) := by
      subst hW3
      exact (Below.heap_alloc _ _ _ (by simp)).trans (heap_alloc_new _ _)
    have a3 := A2.out.1.lt.below hb3
    have y3 := ((B.out.1.below A2.out.2.2.1).below A2.out.2.2.2).below hb3
    clear c0 c1 c2 c3 c4 c5 c6
    obtain ⟨c0, c1, c2, c3, c4, c5, c6⟩ := y3.c7
    have k9 : W3.cell? ⟨w2.heap.size + 1, 9, none⟩ = some (.int .i64 0) := x3.c 9
    have f9 : W3.frozen? ⟨w2.heap.size + 1, 9, none⟩ = false := x3.f 9
    have HW3 := Lib.hid hW3
    have X3 := Lib.hid (And.intro x3 (And.intro hb3 (And.intro hm3 a3)))
    clear x3 hb3 hm3 a3 y3 hW3
    have HW3' := HW3.out
    unfold coreC at HW3'
    rw [← HW3']
    clear HW3'
    go_wp2_with fail
    refine (Hdr.out _ (coreC s' 0 0 s.b 0 id span 0 0 (.slice none 0 0) w2.heap.size 0 (.slice none 0 0)) _ (X3.out.1.set 9 (.int .i64 s.b)) rfl (by unfold coreC; simp)).mono ?_
    rintro e w4 ⟨rfl, x4, g4'⟩
    have X4 := Lib.hid (And.intro x4 g4')
    clear x4 g4'
    go_wp2_with fail
    go_ret2
    unfold NewPost
    rw [if_pos Hq.out]
    have s1 := B.out.2.1.size
    have s2 := A2.out.2.2.1.size
    have s3 := A2.out.2.2.2.size
    have s4 := X3.out.2.1.size
    have hle : w.heap.size ≤ w2.heap.size := by omega
    have hk : ∀ q, q < W3.heap.size → q ≠ w2.heap.size + 1 → w4.heap[q]? = W3.heap[q]? := fun q h5 h6 => (X4.out.2.block q (by simpa [World.setCell] using h5) (fun e => h6 (by injection e))).trans (Below.heap_setCell _ _ _ q h6)
    have hl1 := X3.out.1.lt
    refine ⟨w2.heap.size, s', rfl, X4.out.1, ?_, A2.out.2.1, hle, (hk _ (by omega) (by omega)).trans X3.out.2.2.1, ?_⟩
    · refine (X3.out.2.2.2.keep fun q hq hl => hk q hl (by have := hq.2; omega)).mono fun q hq => ⟨by have := hq.1; omega, hq.2⟩
    · have e1 : Below w.heap.size w w2 := (B.out.2.1.trans (A2.out.2.2.1.mono (by omega))).trans (A2.out.2.2.2.mono (by omega))
      have e2 : Below w.heap.size w W3 := e1.trans (X3.out.2.1.mono hle)
      refine (e2.setCell (p := ⟨w2.heap.size + 1, 9, none⟩) (by show w.heap.size ≤ w2.heap.size + 1; omega) (.int .i64 s.b)).grown X4.out.2 ?_ ?_
      · simp [World.setCell]; omega
      · intro q hq
        injection hq with hq
        omega
end Go.Proofs.YtlecglmiigdjlaaGreatDoor
namespace Go.Proofs.YtlecglmiigdjlaaGreatDoor
open Go.RowKit
set_option maxRecDepth 100000
set_option linter.unusedVariables false
set_option linter.unusedSimpArgs false
def MayPost (W : World) (q : Bool) (e : Ending) (w' : World) : Prop := e = .returned (if q = true then .nilIface else .iface 69 (.int .i64 1)) ∧ Below W.heap.size W w'
set_option maxHeartbeats 1600000 in
theorem kmay_any (s : Sv) (w : World) {ok : Nat → Prop} (h : s.At w ok) (hf : s.Fit) (hev : EvW w w.heap.size) :
    Calls Tryz.prog 28 #[s.val] w (MayPost w s.st.may) := by
  obtain ⟨W0, hW0⟩ : ∃ W0, W0 = w.alloc (.cells s.cells 35) := ⟨_, rfl⟩
  have b0 : Bx W0 w.heap.size s.cells := by subst hW0; exact Bx.new _ _ _ rfl
  have hbe : Below w.heap.size w W0 := by subst hW0; exact (Below.refl _ _).alloc (Nat.le_refl _) _
  have hz0 : W0.heap.size = w.heap.size + 1 := by subst hW0; simp
  have hnw := new_ok 1 2 0 s W0 (h.below hbe) hf (hev.below hbe (Nat.le_refl _) |>.mono (by omega)) (by omega) (by omega) (by omega) (by omega)
  obtain ⟨c0, c1, c2, c3, c4, c5, c6⟩ := Sv.c7 b0
  obtain ⟨q, hq⟩ : ∃ q, s.st.may = q := ⟨_, rfl⟩
  have HW := Lib.hid hW0
  have B := Lib.hid (And.intro b0 (And.intro hbe hz0))
  have Hnw := Lib.hid hnw
  have Hq := Lib.hid hq
  rw [hq]
  clear hW0 b0 hbe hz0 hnw hq h hf hev
  unfold Sv.val stA
  go_enter Tryz.func28, Tryz.ntmps28
  go_upto_region 1 with (fail)
  have HW' := HW.out
  unfold Sv.cells at HW'
  rw [← HW']
  clear HW'
  go_wp2_with fail
  refine Hnw.out.mono ?_
  intro e w1 hp
  unfold NewPost at hp
  cases q
  · rw [if_neg (by rw [Hq.out]; decide)] at hp
    obtain ⟨rfl, hb1⟩ := hp
    go_wp2_with fail
    go_ret
    exact ⟨rfl, B.out.2.1.trans (hb1.mono B.out.2.1.size)⟩
  · rw [if_pos Hq.out] at hp
    obtain ⟨p, s', rfl, -, -, -, -, -, hb1⟩ := hp
    go_wp2_with fail
    go_ret
    exact ⟨rfl, B.out.2.1.trans (hb1.mono B.out.2.1.size)⟩
end Go.Proofs.YtlecglmiigdjlaaGreatDoor
namespace Go.Proofs.YtlecglmiigdjlaaGreatDoor
open Go.RowKit
set_option linter.unusedVariables false
theorem below_setRow {B g : Nat} {w W : World} (h : Below B w W) (hg : B ≤ g) (cs : Array Value) : Below B w (W.setRow g cs) :=
  ⟨h.os, h.tape, h.output, by simpa [World.setRow] using h.size, fun q hq => (setRow_other W g q cs (by omega)).trans (h.block q hq)⟩
theorem Bx.setRow {W : World} {g : Nat} {old : Array Value} (h : Bx W g old) (cs : Array Value) : Bx (W.setRow g cs) g cs := by
  obtain ⟨t, ht⟩ := h.hp
  exact ⟨t, setRow_heap W g old cs t _ ht⟩
theorem Bx.farRow {W : World} {g g' : Nat} {old : Array Value} (h : Bx W g old) (hg : g ≠ g') (cs : Array Value) : Bx (W.setRow g' cs) g old := h.keep (setRow_other W g' g cs hg)
theorem setRow_size (W : World) (g : Nat) (cs : Array Value) : (W.setRow g cs).heap.size = W.heap.size := by simp [World.setRow]
/-- Two results: a wide struct in its box, and a plain one. -/
theorem results_row_tmp {P : Program} {fn : Func} {p q : Tmp} {ty : TypeId} (h : fn.results = #[.cell p ty, .tmp q]) (tmps : Array Value) (w : World) (g : Nat) (t : TypeId) (cs : Array Value) (fr : Nat × Nat) (d : TypeDesc)
    (hp : tmps.getD p undef = .pointer (some ⟨g, 0, none⟩)) (hg : w.heap[g]? = some (.cells cs t fr))
    (hu : P.underlying ty = some d) (hd : (match d with | .struct _ | .array _ _ => true | _ => false) = true) (hi : (P.info? ty).map (·.size) = some cs.size) :
    (results fn tmps).run P w = .ok (.tuple #[.agg cs, tmps.getD q undef]) w := by
  have hp' : tmps[p]?.getD undef = .pointer (some ⟨g, 0, none⟩) := by simpa using hp
  simp [results, h, hp', asAddr, run_loadVar_row w g t ty cs fr d hg hu hd hi]
theorem results_tmp_row_tmp {P : Program} {fn : Func} {o p q : Tmp} {ty : TypeId} (h : fn.results = #[.tmp o, .cell p ty, .tmp q]) (tmps : Array Value) (w : World) (g : Nat) (t : TypeId) (cs : Array Value) (fr : Nat × Nat) (d : TypeDesc)
    (hp : tmps.getD p undef = .pointer (some ⟨g, 0, none⟩)) (hg : w.heap[g]? = some (.cells cs t fr))
    (hu : P.underlying ty = some d) (hd : (match d with | .struct _ | .array _ _ => true | _ => false) = true) (hi : (P.info? ty).map (·.size) = some cs.size) :
    (results fn tmps).run P w = .ok (.tuple #[tmps.getD o undef, .agg cs, tmps.getD q undef]) w := by
  have hp' : tmps[p]?.getD undef = .pointer (some ⟨g, 0, none⟩) := by simpa using hp
  simp [results, h, hp', asAddr, run_loadVar_row w g t ty cs fr d hg hu hd hi]
theorem Bx.set7 {W : World} {g : Nat} {o0 o1 o2 o3 o4 o5 o6 : Value} (h : Bx W g #[o0, o1, o2, o3, o4, o5, o6]) (a b c d e f k : Value) :
    Bx (((((((W.setCell ⟨g, 0, none⟩ a).setCell ⟨g, 1, none⟩ b).setCell ⟨g, 2, none⟩ c).setCell ⟨g, 3, none⟩ d).setCell ⟨g, 4, none⟩ e).setCell ⟨g, 5, none⟩ f).setCell ⟨g, 6, none⟩ k) g #[a, b, c, d, e, f, k] := by
  have h1 : Bx (W.setCell ⟨g, 0, none⟩ a) g #[a, o1, o2, o3, o4, o5, o6] := h.set 0 a
  have h2 : Bx ((W.setCell ⟨g, 0, none⟩ a).setCell ⟨g, 1, none⟩ b) g #[a, b, o2, o3, o4, o5, o6] := h1.set 1 b
  have h3 : Bx (((W.setCell ⟨g, 0, none⟩ a).setCell ⟨g, 1, none⟩ b).setCell ⟨g, 2, none⟩ c) g #[a, b, c, o3, o4, o5, o6] := h2.set 2 c
  have h4 : Bx ((((W.setCell ⟨g, 0, none⟩ a).setCell ⟨g, 1, none⟩ b).setCell ⟨g, 2, none⟩ c).setCell ⟨g, 3, none⟩ d) g #[a, b, c, d, o4, o5, o6] := h3.set 3 d
  have h5 : Bx (((((W.setCell ⟨g, 0, none⟩ a).setCell ⟨g, 1, none⟩ b).setCell ⟨g, 2, none⟩ c).setCell ⟨g, 3, none⟩ d).setCell ⟨g, 4, none⟩ e) g #[a, b, c, d, e, o5, o6] := h4.set 4 e
  have h6 : Bx ((((((W.setCell ⟨g, 0, none⟩ a).setCell ⟨g, 1, none⟩ b).setCell ⟨g, 2, none⟩ c).setCell ⟨g, 3, none⟩ d).setCell ⟨g, 4, none⟩ e).setCell ⟨g, 5, none⟩ f) g #[a, b, c, d, e, f, o6] := h5.set 5 f
  exact h6.set 6 k
theorem keep7 {W : World} {g b : Nat} (hb : b ≠ g) (a0 a1 a2 a3 a4 a5 a6 : Value) : (((((((W.setCell ⟨g, 0, none⟩ a0).setCell ⟨g, 1, none⟩ a1).setCell ⟨g, 2, none⟩ a2).setCell ⟨g, 3, none⟩ a3).setCell ⟨g, 4, none⟩ a4).setCell ⟨g, 5, none⟩ a5).setCell ⟨g, 6, none⟩ a6).heap[b]? = W.heap[b]? := by
  iterate 7 refine (Below.heap_setCell _ _ _ b (by exact hb)).trans ?_
  rfl
theorem heap_drew (W : World) (b : Nat) : W.drew.heap[b]? = W.heap[b]? := rfl
theorem keep7d {W : World} {g b : Nat} (hb : b ≠ g) (a0 a1 a2 a3 a4 a5 a6 : Value) : (((((((W.setCell ⟨g, 0, none⟩ a0).setCell ⟨g, 1, none⟩ a1).setCell ⟨g, 2, none⟩ a2).setCell ⟨g, 3, none⟩ a3).setCell ⟨g, 4, none⟩ a4).setCell ⟨g, 5, none⟩ a5).setCell ⟨g, 6, none⟩ a6).drew.heap[b]? = W.heap[b]? := (heap_drew _ b).trans (keep7 hb _ _ _ _ _ _ _)
theorem below7 {W w : World} {g : Nat} (h : Below g w W) (a0 a1 a2 a3 a4 a5 a6 : Value) : Below g w (((((((W.setCell ⟨g, 0, none⟩ a0).setCell ⟨g, 1, none⟩ a1).setCell ⟨g, 2, none⟩ a2).setCell ⟨g, 3, none⟩ a3).setCell ⟨g, 4, none⟩ a4).setCell ⟨g, 5, none⟩ a5).setCell ⟨g, 6, none⟩ a6) := by
  iterate 7 refine Below.setCell ?_ (by exact Nat.le_refl _) _
  exact h
end Go.Proofs.YtlecglmiigdjlaaGreatDoor
