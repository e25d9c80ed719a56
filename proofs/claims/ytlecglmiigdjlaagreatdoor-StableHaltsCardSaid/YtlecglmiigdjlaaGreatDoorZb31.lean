/- Plain law: two areas, each with a record at its end; which one counts. No program in sight.
   The law's giveLog: all that it gives is new. (Printed by mklaw15.py out of c09's XGive.)
   Walk: the law's giveStored. (Printed by mkgive15.py.)
   Walks: the law's blank, own, right, long.
   Walk of the law's ints: are two lists of numbers the same? -/
import Derived.Test.YtlecglmiigdjlaaGreatDoorZb27
import Derived.Test.YtlecglmiigdjlaaGreatDoorZb30
import Derived.Test.YtlecglmiigdjlaaGreatDoorZb11
import Derived.Test.YtlecglmiigdjlaaGreatDoorZb26
import Derived.Test.YtlecglmiigdjlaaGreatDoorZb29
import Derived.Test.YtlecglmiigdjlaaGreatDoorZb13
import Derived.Test.YtlecglmiigdjlaaGreatDoorZb12
import Derived.RegionTactic
namespace Go.Proofs.YtlecglmiigdjlaaGreatDoor
open Go.RowKit
set_option linter.unusedVariables false
set_option linter.unusedSimpArgs false
theorem halt_app {t : Tp} {D : Dk} {rs : List (List UInt8)} {b : List UInt8} (hc : D.Calm 2000) (ha : D.armed = 0) (ht : recs D.now t.fr t.en = (rs, t.p, false)) (hd : t.dead = 0) (hen : t.en ≤ 2000) (hr : t.p + 5 + b.length ≤ t.en) :
    ∃ D', t.append D b = ({ t with p := t.p + 5 + b.length, n := t.n + 1 }, D', 0) ∧ D'.Calm 2000 ∧ D'.armed = 0 ∧ recs D'.now t.fr t.en = (rs ++ [b], t.p + 5 + b.length, false) ∧
      ∀ fr e r q, fr ≤ e → (e ≤ t.p ∨ t.en ≤ fr) → recs D.now fr e = (r, q, false) → recs D'.now fr e = (r, q, false) := by
  rcases append_cases hc hd (b := b) (by omega) hr hen with ⟨D', h1, h2, h3, h4⟩ | ⟨h1, _⟩
  · refine ⟨D', h1, h2, h4 ha, ?_, ?_⟩
    · rw [h3]
      exact recs_put ht (by omega) hr (by rw [hc.wrote_len]; exact hen)
    · intro fr e r q hfe hd' hrec
      rw [h3]
      have hol := t.out_len b
      have hl : t.p + (1 :: t.out b).length ≤ t.en := by
        simp only [List.length_cons, hol]
        split <;> omega
      exact recs_off hrec hfe (by rcases hd' with h | h <;> omega) (by rw [hc.wrote_len]; omega)
  · exact absurd ha h1
def preR (sw : Bool) : List (List UInt8) := if sw = true then [[120]] else []
/-- Behind i areas. -/
structure HI (sw : Bool) (a b : List UInt8) (i : Nat) (D : Dk) : Prop where
  calm : D.Calm 2000
  ar : D.armed = 0
  r0 : ∃ p, recs D.now 0 1000 = (if i = 0 then [] else preR sw ++ [a], p, false)
  r1 : ∃ p, recs D.now 1000 2000 = (if i ≤ 1 then [] else preR sw ++ [b], p, false)
theorem make_hi (sw : Bool) (a b : List UInt8) : HI sw a b 0 (Dk.make 2000) := ⟨make_calm (by omega), rfl, ⟨0, make_recs 2000 0 1000⟩, ⟨1000, make_recs 2000 1000 2000⟩⟩
theorem recs_empty {l : List UInt8} {fr e p : Nat} (h : recs l fr e = ([], p, false)) : p = fr := by
  unfold recs at h
  rw [recsF_step] at h
  split at h
  · split at h
    · injection h with _ h; injection h with h _; exact h.symm
    · split at h
      · injection h with _ h; injection h with _ h; cases h
      · injection h with h _; cases h
  · injection h with _ h; injection h with h _; exact h.symm
theorem stD_some {l : List UInt8} {x : Nat × St} (h : stD l = some x) : 1 ≤ x.1 ∧ x.2.may = true := by
  obtain ⟨⟨s, r⟩, hs⟩ : ∃ q, stS l = q := ⟨_, rfl⟩
  rw [stD_eq hs] at h
  unfold Raw.fin at h
  obtain ⟨oe, he⟩ : ∃ o, r.es = o := ⟨_, rfl⟩
  obtain ⟨oc, hc⟩ : ∃ o, confD r.x = o := ⟨_, rfl⟩
  rw [he, hc] at h
  cases oe with
  | none => rw [finS_es] at h; cases h
  | some es =>
    cases oc with
    | none => rw [finS_cf] at h; cases h
    | some cf =>
      rw [finS_some] at h
      split at h
      · rename_i hq
        injection h with h
        subst h
        exact ⟨hq.2.1, hq.2.2⟩
      · cases h
theorem lastR_pre (sw : Bool) (b : List UInt8) : lastR (preR sw ++ [b]) = b := lastR_snoc _ _
theorem HI.open_none {sw : Bool} {a b : List UInt8} {D : Dk} (h : HI sw a b 2 D) (hn : stD a = none ∨ stD b = none) : openS 2000 D = none := by
  obtain ⟨p0, h0⟩ := h.r0
  obtain ⟨p1, h1⟩ := h.r1
  rw [if_neg (by omega)] at h0 h1
  have k0 : recs D.now 0 (2000 / 2) = (preR sw ++ [a], p0, false) := h0
  have k1 : recs D.now (2000 / 2) 2000 = (preR sw ++ [b], p1, false) := h1
  unfold openS
  rw [if_neg (by rw [k0, k1]; simp), k0, k1]
  dsimp only
  rw [lastR_pre, lastR_pre]
  unfold chooseS
  have n0 : ((kpOf 2000 D).t0.n = 0) = False := by unfold kpOf; rw [k0]; simp
  have s0 : stepC (kpOf 2000 D) false a = pickS (kpOf 2000 D) false (stD a) := by unfold stepC; rw [if_neg (by rw [if_neg (by decide), n0]; exact id)]
  rw [s0]
  cases ha : stD a with
  | none => rfl
  | some x =>
    rcases hn with hn | hn
    · rw [ha] at hn; cases hn
    · have e1 : ∀ K : Kp, K.t1.n = (kpOf 2000 D).t1.n → stepC K true b = none := fun K hK => by
        unfold stepC
        rw [if_neg (by rw [if_pos rfl, hK]; unfold kpOf; rw [k1]; simp), hn]
        rfl
      unfold pickS
      dsimp only [Option.bind]
      split
      · exact e1 _ rfl
      · exact e1 _ rfl
theorem HI.open_some {sw : Bool} {a b : List UInt8} {D : Dk} (h : HI sw a b 2 D) {x y : Nat × St} (ha : stD a = some x) (hb : stD b = some y) : ∃ K, openS 2000 D = some K ∧ (K.n, K.now) = (if x.1 < y.1 then y else x) := by
  obtain ⟨p0, h0⟩ := h.r0
  obtain ⟨p1, h1⟩ := h.r1
  rw [if_neg (by omega)] at h0 h1
  have k0 : recs D.now 0 (2000 / 2) = (preR sw ++ [a], p0, false) := h0
  have k1 : recs D.now (2000 / 2) 2000 = (preR sw ++ [b], p1, false) := h1
  have hx := (stD_some ha).1
  unfold openS
  rw [if_neg (by rw [k0, k1]; simp), k0, k1]
  dsimp only
  rw [lastR_pre, lastR_pre]
  unfold chooseS
  have n0 : ((kpOf 2000 D).t0.n = 0) = False := by unfold kpOf; rw [k0]; simp
  have s0 : stepC (kpOf 2000 D) false a = pickS (kpOf 2000 D) false (stD a) := by unfold stepC; rw [if_neg (by rw [if_neg (by decide), n0]; exact id)]
  have z0 : (kpOf 2000 D).n = 0 := rfl
  rw [s0, ha]
  unfold pickS
  dsimp only [Option.bind]
  rw [if_pos (by rw [z0]; omega)]
  unfold stepC
  rw [if_neg (by rw [if_pos rfl]; unfold kpOf; rw [k1]; simp), hb]
  unfold pickS
  dsimp only
  by_cases hlt : x.1 < y.1
  · rw [if_pos hlt, if_pos hlt]
    exact ⟨_, rfl, rfl⟩
  · rw [if_neg hlt, if_neg hlt]
    exact ⟨_, rfl, rfl⟩
end Go.Proofs.YtlecglmiigdjlaaGreatDoor
namespace Go.Proofs.YtlecglmiigdjlaaGreatDoor
open Go.RowKit
set_option maxRecDepth 100000
set_option linter.unusedVariables false
set_option linter.unusedSimpArgs false
attribute [local go_sem ↓] Go.wp_at_zero Go.wp_at_succ
def LogPostB (W : World) (b t : Int) (n : Nat) (L : List Er) (e : Ending) (w' : World) : Prop :=
  ∃ A c L', e = .returned (.agg #[.int .i64 b, .int .i64 t, .slice A n c]) ∧ Rd w' (W.heap.size ≤ ·) 4 A n (flat ecell L') ∧ DatB w' W.heap.size L' ∧ Same L L' ∧ n ≤ c ∧ c ≤ maxLen ∧ Below W.heap.size W w'
set_option maxHeartbeats 3200000 in
theorem giveLogB_any (b t : Int) (A : Option Addr) (n c : Nat) (L : List Er) (w : World) (hr : Rd w T 4 A n (flat ecell L)) (hd : Dat w L) (hs : ∀ x ∈ L, x.n ≤ 1000000) (hn : n ≤ 1000000) :
    Calls Tryz.prog 38 #[.agg #[.int .i64 b, .int .i64 t, .slice A n c]] w (LogPostB w b t n L) := by
  have hr' := hr.lt (by omega)
  obtain ⟨W0, hW0⟩ : ∃ W0, W0 = (w.alloc (.cells #[.int .i64 b, .int .i64 t, .slice A n c] 48)).alloc (.cells #[.int .i64 0, .int .i64 0, .slice none 0 0] 31) := ⟨_, rfl⟩
  have b0 : Bx W0 w.heap.size #[.int .i64 b, .int .i64 t, .slice A n c] := by subst hW0; exact (Bx.new _ _ _ rfl).alloc _
  have F0 : Fr W0 (w.heap.size + 1) 3 W0 := by subst hW0; exact Fr.new (by simp) rfl
  have r0 : Rd W0 (· < w.heap.size) 4 A n (flat ecell L) := by subst hW0; exact ((hr'.mono fun b hb => hb.2).alloc _).alloc _
  have d0 : ∀ x ∈ L, Rd W0 (· < w.heap.size) 1 x.A x.n (bs x.d) ∧ x.n ≤ x.m ∧ x.m ≤ maxLen := by
    subst hW0
    exact fun x hx => ⟨(((((hd x hx).1.lt (by omega)).mono fun b hb => hb.2).alloc _).alloc _), (hd x hx).2⟩
  have hbe : Below w.heap.size w W0 := by subst hW0; exact ((Below.refl _ _).alloc (Nat.le_refl _) _).alloc (by simp) _
  have hz : W0.heap.size = w.heap.size + 2 := by subst hW0; simp
  have u0 : W0.cell? ⟨w.heap.size, 0, none⟩ = some (.int .i64 b) := b0.c 0
  have u1 : W0.cell? ⟨w.heap.size, 1, none⟩ = some (.int .i64 t) := b0.c 1
  have u2 : W0.cell? ⟨w.heap.size, 2, none⟩ = some (.slice A n c) := b0.c 2
  have sof : ∀ W, Fr W0 (w.heap.size + 1) 3 W → (Fr W0 (w.heap.size + 1) 3 W ∧ W.cell? ⟨w.heap.size, 0, none⟩ = some (.int .i64 b) ∧ W.cell? ⟨w.heap.size, 1, none⟩ = some (.int .i64 t) ∧ W.cell? ⟨w.heap.size, 2, none⟩ = some (.slice A n c) ∧ W.cell? ⟨w.heap.size + 1, 0, none⟩ = some (peek W (w.heap.size + 1) 0) ∧ W.cell? ⟨w.heap.size + 1, 1, none⟩ = some (peek W (w.heap.size + 1) 1) ∧ W.cell? ⟨w.heap.size + 1, 2, none⟩ = some (peek W (w.heap.size + 1) 2) ∧ W.frozen? ⟨w.heap.size + 1, 0, none⟩ = false ∧ W.frozen? ⟨w.heap.size + 1, 1, none⟩ = false ∧ W.frozen? ⟨w.heap.size + 1, 2, none⟩ = false) :=
    fun W F2 => ⟨F2, F2.cell (by omega) u0, F2.cell (by omega) u1, F2.cell (by omega) u2, F2.pk (by omega), F2.pk (by omega), F2.pk (by omega), F2.fz _, F2.fz _, F2.fz _⟩
  have hgv := fun W (h : Fr W0 (w.heap.size + 1) 3 W) => gives_any A n c L W (h.rd r0 (by omega)) (fun x hx => ⟨(h.rd (d0 x hx).1 (by omega)).any, (d0 x hx).2⟩) hs hn
  have Hgv := Lib.hid hgv
  have HW := Lib.hid hW0
  have s0 := sof _ F0
  have Hz := Lib.hid hz
  clear hW0 b0 u0 u1 u2 hr hr' hz r0 d0 hgv hd hs
  go_enter Tryz.func38, Tryz.ntmps38
  go_upto_region 1 with (fail)
  rw [← HW.out]
  go_split_ands
  go_region_held3 (fun W => Fr W0 (w.heap.size + 1) 3 W ∧ W.cell? ⟨w.heap.size, 0, none⟩ = some (.int .i64 b) ∧ W.cell? ⟨w.heap.size, 1, none⟩ = some (.int .i64 t) ∧ W.cell? ⟨w.heap.size, 2, none⟩ = some (.slice A n c) ∧ W.cell? ⟨w.heap.size + 1, 0, none⟩ = some (peek W (w.heap.size + 1) 0) ∧ W.cell? ⟨w.heap.size + 1, 1, none⟩ = some (peek W (w.heap.size + 1) 1) ∧ W.cell? ⟨w.heap.size + 1, 2, none⟩ = some (peek W (w.heap.size + 1) 2) ∧ W.frozen? ⟨w.heap.size + 1, 0, none⟩ = false ∧ W.frozen? ⟨w.heap.size + 1, 1, none⟩ = false ∧ W.frozen? ⟨w.heap.size + 1, 2, none⟩ = false) ((refine sof _ ?_; first | exact F0.drew | (go_split_ands; exact Fr.below (by assumption) (by assumption)) | (go_split_ands; exact Fr.set (Fr.set (Fr.set (by assumption) _ _) _ _) _ _))) (first
    | (go_at_call 73; refine (Hgv.out _ (by go_split_ands; assumption)).mono ?_; rintro e w4 ⟨A4, c4, L4, rfl, ro4, sm4, hb4⟩; have F4 : Fr W0 (w.heap.size + 1) 3 w4 := Fr.below (by go_split_ands; assumption) hb4; have z4 : W0.heap.size ≤ W0.drew.heap.size := Nat.le_refl _))
  all_goals
    have q0 : w4.cell? ⟨w.heap.size + 1, 0, none⟩ = some (peek w4 (w.heap.size + 1) 0) := F4.pk (by omega)
    have q1 : w4.cell? ⟨w.heap.size + 1, 1, none⟩ = some (peek w4 (w.heap.size + 1) 1) := F4.pk (by omega)
    have q2 : w4.cell? ⟨w.heap.size + 1, 2, none⟩ = some (peek w4 (w.heap.size + 1) 2) := F4.pk (by omega)
    have FF := Fr.set (Fr.set (Fr.set F4 0 (.int .i64 b)) 1 (.int .i64 t)) 2 (.slice A4 n c4)
    have hz := Hz.out
    go_wp2_with fail
    refine bodyPost_ret (by simp [results, Tryz.results38, go_sem, q0, q1, q2]; rfl) rfl ?_
    have hm := own_cap ro4.ow
    have hne : ¬ W0.drew.heap.size ≤ w.heap.size + 1 := by show ¬ W0.heap.size ≤ _; omega
    refine ⟨A4, c4, L4, rfl, ?_, fun y hy => ⟨?_, (ro4.dt y hy).2⟩, sm4, hm.1, hm.2, hbe.trans (FF.to_below (B := w.heap.size) (by omega))⟩
    · exact ((((Rd.of_own ro4.ow).setCell (p := ⟨w.heap.size + 1, 0, none⟩) hne _).setCell (p := ⟨w.heap.size + 1, 1, none⟩) hne _).setCell (p := ⟨w.heap.size + 1, 2, none⟩) hne _).mono fun q hq => (by have h9 : W0.heap.size ≤ q := hq; omega)
    · exact ((((ro4.dat_from y hy).1.setCell (p := ⟨w.heap.size + 1, 0, none⟩) hne _).setCell (p := ⟨w.heap.size + 1, 1, none⟩) hne _).setCell (p := ⟨w.heap.size + 1, 2, none⟩) hne _).mono fun q hq => (by have h9 : W0.heap.size ≤ q := hq; omega)
end Go.Proofs.YtlecglmiigdjlaaGreatDoor
namespace Go.Proofs.YtlecglmiigdjlaaGreatDoor
open Go.RowKit
set_option maxRecDepth 100000
set_option linter.unusedVariables false
set_option linter.unusedSimpArgs false
def GiveSP (W : World) (s : St) (e : Ending) (w' : World) : Prop := ∃ s' : Sv, e = .returned s'.val ∧ s'.At w' (W.heap.size ≤ ·) ∧ s'.st = s ∧ s'.Fit ∧ Below W.heap.size W w'
set_option maxHeartbeats 3200000 in
theorem giveS_any (s : Sv) (w : World) {ok : Nat → Prop} (h : s.At w ok) (hf : s.Fit) :
    Calls Tryz.prog 16 #[s.val] w (GiveSP w s.st) := by
  obtain ⟨W0, hW0⟩ : ∃ W0, W0 = (w.alloc (.cells s.cells 50)).alloc (.cells z7 35) := ⟨_, rfl⟩
  have b0 : Bx W0 w.heap.size s.cells := by subst hW0; exact (Bx.new _ _ _ rfl).alloc _
  have b9 : Bx W0 (w.heap.size + 1) z7 := by subst hW0; exact Bx.new _ _ _ (by simp)
  have hbe : Below w.heap.size w W0 := by subst hW0; exact ((Below.refl _ _).alloc (Nat.le_refl _) _).alloc (by simp) _
  have hz0 : W0.heap.size = w.heap.size + 2 := by subst hW0; simp
  have a0 := h.below hbe
  have hgl := giveLogB_any s.b s.t s.A s.n s.c s.L W0.drew a0.l.any.drew (fun y hy => ⟨(a0.d y hy).1.any.drew, (a0.d y hy).2⟩) (fun y hy => (hf.w y hy).2) hf.z.1
  have F : ∀ W, Below W0.heap.size W0 W → W.cell? ⟨w.heap.size, 0, none⟩ = some (.int .i64 s.tm) ∧ W.cell? ⟨w.heap.size, 1, none⟩ = some (.int .i64 s.vt) ∧ W.cell? ⟨w.heap.size, 2, none⟩ = some (.int .i64 s.b) ∧ W.cell? ⟨w.heap.size, 3, none⟩ = some (.int .i64 s.t) ∧ W.cell? ⟨w.heap.size, 4, none⟩ = some (.slice s.A s.n s.c) ∧ W.cell? ⟨w.heap.size, 5, none⟩ = some (.slice s.C s.nc s.cc) ∧ W.cell? ⟨w.heap.size, 6, none⟩ = some (.slice s.S s.ns s.cs) := fun W hb => Sv.c7 (b0.below hb)
  have hz := hf.z
  have FF := Lib.hid F
  have HW := Lib.hid hW0
  have B := Lib.hid (And.intro b9 (And.intro hbe (And.intro hz0 a0)))
  have Hgl := Lib.hid hgl
  have Hh := Lib.hid h
  clear F hW0 b0 b9 hbe hz0 a0 hgl h
  unfold Sv.val stA
  go_enter Tryz.func16, Tryz.ntmps16
  go_upto_region 1 with (fail)
  have HW' := HW.out
  unfold Sv.cells z7 at HW'
  rw [← HW']
  clear HW'
  go_upto_region 3 with (fail)
  refine wp_region_S 16 (fun W => Below W0.heap.size W0 W) (.take 0 (.take 1 (.take 2 (.take 3 (.take 4 (.take 5 (.take 7 (.take 8 (.take 9 (.take 11 (.take 12 (.take 13 (.one 6 (.one 10 (.one 14 (.take 15 (.one 16 (.nil)))))))))))))))))) (by kernel_rfl) (Below.refl _ _).drew (fun _ _ _ _ h => h) (fun hS => ?_)
  repeat (first
    | (refine wpS_take (v := ?_) rfl rfl (by rfl) ?_ ?_; rotate_left; (intro W hW; have hf := FF.out W hW; go_split_ands; go_simp; try with_reducible rfl); try simp only [Act.put, List.setIfInBounds_toArray, List.set_cons_zero, List.set_cons_succ])
    | (refine wpS_skip rfl rfl (by rfl) ?_; try simp only [Act.put, List.setIfInBounds_toArray, List.set_cons_zero, List.set_cons_succ]))
  refine wpS_one rfl (by rfl) (fun K hK => ?_)
  go_simp
  go_at_call 38
  refine (Hgl.out).mono ?_
  rintro e w1 ⟨A1, c1, L1, rfl, r1, d1, e1, k1, k2, hb1⟩
  have hb1' : Below W0.heap.size W0 w1 := (Below.refl _ _).drew.trans hb1
  have R1 := Lib.hid (And.intro r1 (And.intro d1 (And.intro e1 (And.intro k1 k2))))
  have hS1 := hb1'
  clear r1 d1 e1 hb1 hb1'
  refine hK (fun W => Below W0.heap.size W0 W) _ _ (fun _ h => h) hS1 ?_
  clear hK K
  try simp only [Act.put, List.setIfInBounds_toArray, List.set_cons_zero, List.set_cons_succ]
  refine wpS_one rfl (by rfl) (fun K hK => ?_)
  refine wp_append_any w1 Tryz.underlying22 int_elem rfl (by omega) rfl rfl (World.ownsRow_nil w1 w1.heap.size _ 1) rfl (B.out.2.2.2.cf.any.below hS1) (ii_one _) (by omega) (Nat.le_refl _) (Nat.zero_add _) (List.nil_append _) ?_
  intro A2 c2 w2 o2 g2 hat2
  clear hat2
  have hb2 : Below w1.heap.size w1 w2 := (Below.refl _ _).grown g2 (Nat.le_refl _) (fun q hq => by cases hq)
  have hS2 := hS1.trans (hb2.mono hS1.size)
  have O2 := Lib.hid (And.intro o2 hb2)
  refine hK (fun W => Below W0.heap.size W0 W) _ _ (fun _ h => h) hS2 ?_
  clear hK K o2 g2 hb2
  try simp only [Act.put, List.setIfInBounds_toArray, List.set_cons_zero, List.set_cons_succ]
  refine wpS_one rfl (by rfl) (fun K hK => ?_)
  refine wp_append_any w2 Tryz.underlying33 u8_elem rfl (by omega) rfl rfl (World.ownsRow_nil w2 w2.heap.size _ 1) rfl (B.out.2.2.2.sn.any.below hS2) (bs_one _) (by omega) (Nat.le_refl _) (Nat.zero_add _) (List.nil_append _) ?_
  intro A3 c3 w3 o3 g3 hat3
  clear hat3
  have hb3 : Below w2.heap.size w2 w3 := (Below.refl _ _).grown g3 (Nat.le_refl _) (fun q hq => by cases hq)
  have hS3 := hS2.trans (hb3.mono hS2.size)
  have O3 := Lib.hid (And.intro o3 hb3)
  refine hK (fun W => Below W0.heap.size W0 W) _ _ (fun _ h => h) hS3 ?_
  clear hK K o3 g3 hb3
  try simp only [Act.put, List.setIfInBounds_toArray, List.set_cons_zero, List.set_cons_succ]
  repeat (first
    | (refine wpS_take (v := ?_) rfl rfl (by rfl) ?_ ?_; rotate_left; (intro W hW; have hf := FF.out W hW; go_split_ands; go_simp; try with_reducible rfl); try simp only [Act.put, List.setIfInBounds_toArray, List.set_cons_zero, List.set_cons_succ])
    | (refine wpS_skip rfl rfl (by rfl) ?_; try simp only [Act.put, List.setIfInBounds_toArray, List.set_cons_zero, List.set_cons_succ]))
  have y9 := B.out.1.below hS3
  obtain ⟨q0, q1, q2, q3, q4, q5, q6⟩ := y9.c7
  have p0 := y9.f 0
  have p1 := y9.f 1
  have p2 := y9.f 2
  have p3 := y9.f 3
  have p4 := y9.f 4
  have p5 := y9.f 5
  have p6 := y9.f 6
  have Y9 := Lib.hid (And.intro y9 (And.intro hS1 (And.intro hS2 hS3)))
  clear y9
  refine wpS_last rfl (by rfl) (fun K hK => ?_)
  go_simp
  refine hK _ _ ?_
  clear hK K hS hS1 hS2 hS3
  try simp only [Act.put, List.setIfInBounds_toArray, List.set_cons_zero, List.set_cons_succ]
  refine wpS_nil ?_
  clear q0 q1 q2 q3 q4 q5 q6 p0 p1 p2 p3 p4 p5 p6
  obtain ⟨W4, hW4⟩ : ∃ W4, W4 = (((((((w3.setCell ⟨w.heap.size + 1, 0, none⟩ (.int .i64 s.tm)).setCell ⟨w.heap.size + 1, 1, none⟩ (.int .i64 s.vt)).setCell ⟨w.heap.size + 1, 2, none⟩ (.int .i64 s.b)).setCell ⟨w.heap.size + 1, 3, none⟩ (.int .i64 s.t)).setCell ⟨w.heap.size + 1, 4, none⟩ (.slice A1 s.n c1)).setCell ⟨w.heap.size + 1, 5, none⟩ (.slice A2 s.nc c2)).setCell ⟨w.heap.size + 1, 6, none⟩ (.slice A3 s.ns c3)) := ⟨_, rfl⟩
  have x4 : Bx W4 (w.heap.size + 1) (Sv.cells ⟨s.tm, s.vt, s.b, s.t, A1, s.n, c1, L1, A2, s.nc, c2, s.cf, A3, s.ns, c3, s.sn⟩) := by
    rw [hW4]
    exact Bx.set7 Y9.out.1 _ _ _ _ _ _ _
  have hk : ∀ b, b ≠ w.heap.size + 1 → W4.heap[b]? = w3.heap[b]? := fun b hb => by
    rw [hW4]
    exact keep7 hb _ _ _ _ _ _ _
  have b4 : Below w.heap.size w W4 := by
    have h1 := B.out.2.1.trans (Y9.out.2.2.2.mono B.out.2.1.size)
    have h2 : Below w.heap.size w3 W4 := by
      rw [hW4]
      exact (below7 (Below.refl (w.heap.size + 1) w3) _ _ _ _ _ _ _).mono (by omega)
    exact h1.trans h2
  have z1 := Y9.out.2.1.size
  have z2 := Y9.out.2.2.1.size
  have hz0 := B.out.2.2.1
  have zd : W0.drew.heap.size = W0.heap.size := rfl
  have a3 : Sv.At ⟨s.tm, s.vt, s.b, s.t, A1, s.n, c1, L1, A2, s.nc, c2, s.cf, A3, s.ns, c3, s.sn⟩ w3 (W0.heap.size ≤ ·) :=
    ⟨(R1.out.1.below O2.out.2).below O3.out.2, fun y hy => ⟨((R1.out.2.1 y hy).1.below O2.out.2).below O3.out.2, (R1.out.2.1 y hy).2⟩, ((Rd.of_own O2.out.1).mono fun b hb => (by omega : W0.heap.size ≤ b)).below O3.out.2, (Rd.of_own O3.out.1).mono fun b hb => (by omega : W0.heap.size ≤ b), R1.out.2.2.2, own_cp O2.out.1, own_cp O3.out.1⟩
  have a4 := (a3.keep (W' := W4) fun b hb _ => hk b (by have h9 : W0.heap.size ≤ b := hb; omega)).mono (ok' := (w.heap.size ≤ ·)) fun b hb => (by have h9 : W0.heap.size ≤ b := hb; omega)
  have st4 : Sv.st ⟨s.tm, s.vt, s.b, s.t, A1, s.n, c1, L1, A2, s.nc, c2, s.cf, A3, s.ns, c3, s.sn⟩ = s.st := by
    have h9 : L1.map en = s.L.map en := R1.out.2.2.1
    unfold Sv.st
    dsimp only
    rw [h9]
  have f4 := Sv.fit_of a4 Hh.out hf st4
  rw [← hW4]
  have K4 := Lib.hid (And.intro a4 (And.intro st4 (And.intro f4 b4)))
  clear hW4 hk b4 a3 a4 st4 f4
  go_wp2_with fail
  obtain ⟨ty4, hg4⟩ := x4.hp
  refine bodyPost_ret (results_cell_row rfl _ _ (w.heap.size + 1) _ _ (0, 0) _ rfl hg4 Tryz.underlying35 rfl (by kernel_rfl)) rfl ?_
  exact ⟨_, rfl, K4.out.1, K4.out.2.1, K4.out.2.2.1, K4.out.2.2.2⟩
end Go.Proofs.YtlecglmiigdjlaaGreatDoor
namespace Go.Proofs.YtlecglmiigdjlaaGreatDoor
open Go.RowKit
set_option maxRecDepth 100000
set_option linter.unusedVariables false
set_option linter.unusedSimpArgs false
def BlankP (W : World) (z : Nat) (e : Ending) (w' : World) : Prop := ∃ L g, e = .returned (.pointer (some ⟨g, 0, none⟩)) ∧ DX w' L g (Dk.make z) z ∧ (∀ b, L b → W.heap.size ≤ b) ∧ Below W.heap.size W w'
theorem blank_any (z : Nat) (h1 : 1 ≤ z) (h2 : z ≤ 4194304) (w : World) : Calls Tryz.prog 11 #[.int .i64 z] w (BlankP w z) := by
  have hn := dnew_any z h1 h2 w
  have Hn := Lib.hid hn
  clear hn
  go_enter Tryz.func11, Tryz.ntmps11
  go_wp2_with fail
  refine Hn.out.mono ?_
  rintro e w1 ⟨L, g, rfl, hd, hl, hb⟩
  have H := Lib.hid (And.intro hd (And.intro hl hb))
  clear hd hl hb
  go_wp2_with fail
  go_ret
  exact ⟨L, g, rfl, H.out.1, H.out.2.1, H.out.2.2⟩
theorem lown_any (A : Option Addr) (n c : Nat) (l : List Int) (w : World) {ok : Nat → Prop} (hr : Rd w ok 1 A n (ii l)) (hn : n ≤ 1000000) :
    Calls Tryz.prog 13 #[.slice A n c] w (OwnPost w n l) := by
  go_enter Tryz.func13, Tryz.ntmps13
  go_wp2_with (at_builtin; refine wpList_append_any _ Tryz.underlying22 int_elem rfl (by omega) rfl rfl rfl (World.ownsRow_nil w w.heap.size 3 1) rfl hr (ii_one l) (by omega) (by simp) (Nat.zero_add _) (List.nil_append _) ?_; intro A1 c1 w1 hown1 hg1 hat1)
  go_ret
  exact ⟨_, _, rfl, hown1, (Below.refl _ _).grown hg1 (Nat.le_refl _) (fun q hq => by cases hq)⟩
set_option maxHeartbeats 1600000 in
theorem lright_any (s : Sv) (w : World) {ok : Nat → Prop} (h : s.At w ok) (hf : s.Fit) :
    Calls Tryz.prog 18 #[s.val] w (BoolPost w s.st.may) := by
  obtain ⟨W0, hW0⟩ : ∃ W0, W0 = w.alloc (.cells s.cells 50) := ⟨_, rfl⟩
  have b0 : Bx W0 w.heap.size s.cells := by subst hW0; exact Bx.new _ _ _ rfl
  have hbe : Below w.heap.size w W0 := by subst hW0; exact (Below.refl _ _).alloc (Nat.le_refl _) _
  have hnw := newR_ok 1 2 0 s W0 (h.below hbe) hf (by omega) (by omega) (by omega) (by omega)
  obtain ⟨c0, c1, c2, c3, c4, c5, c6⟩ := Sv.c7 b0
  have HW := Lib.hid hW0
  have B := Lib.hid hbe
  have Hnw := Lib.hid hnw
  clear hW0 b0 hbe hnw h hf
  unfold Sv.val stA
  go_enter Tryz.func18, Tryz.ntmps18
  go_upto_region 1 with (fail)
  have HW' := HW.out
  unfold Sv.cells at HW'
  rw [← HW']
  clear HW'
  go_wp2_with fail
  refine Hnw.out.mono ?_
  rintro e w1 ⟨cs, hs, h1, -, rfl, hb1⟩
  have K := Lib.hid (And.intro hs (And.intro h1 (B.out.trans (hb1.mono B.out.size))))
  have hi : (Tryz.prog.info? 98).map (·.size) = some cs.size := by rw [hs]; kernel_rfl
  have Hi := Lib.hid hi
  obtain ⟨q, hq⟩ : ∃ q, s.st.may = q := ⟨_, rfl⟩
  have Hq := Lib.hid hq
  rw [hq]
  clear hs h1 hb1 hi hq c0 c1 c2 c3 c4 c5 c6
  cases q
  all_goals
    go_wp2_with (refine wpList_store_row rfl 98 _ _ rfl w1.heap.size cs rfl rfl _ coreZ (heap_alloc_new _ _) Hi.out (K.out.1.symm ▸ rfl) K.out.2.1 ?_)
    go_ret
    exact ⟨by rw [Hq.out]; rfl, below_setRow (K.out.2.2.alloc K.out.2.2.size _) K.out.2.2.size _⟩
end Go.Proofs.YtlecglmiigdjlaaGreatDoor
namespace Go.Proofs.YtlecglmiigdjlaaGreatDoor
open Go.RowKit
set_option linter.unusedVariables false
set_option linter.unusedSimpArgs false
set_option maxRecDepth 100000
theorem ints_short (A : Option Addr) (n c : Nat) (B : Option Addr) (m d : Nat) (w : World) (h : ((n : Int) != (m : Int)) = true) :
    Calls Tryz.prog 31 #[.slice A n c, .slice B m d] w (BoolPost w false) := by
  go_enter Tryz.func31, Tryz.ntmps31
  go_wp2_with fail
  go_ret
  exact ⟨rfl, Below.refl _ _⟩
set_option maxHeartbeats 800000 in
theorem ints_same (A : Option Addr) (n c : Nat) (B : Option Addr) (d : Nat) (xs ys : List Int) (w : World) {ok ok' : Nat → Prop} (hx : Rd w ok 1 A n (ii xs)) (hy : Rd w ok' 1 B n (ii ys)) (hn : n ≤ 9223372036854775807) :
    Calls Tryz.prog 31 #[.slice A n c, .slice B n d] w (BoolPost w (decide (xs = ys))) := by
  have hlx : xs.length = n := by have := hx.1; simpa [ii] using this
  have hly : ys.length = n := by have := hy.1; simpa [ii] using this
  have Hlx := Lib.hid hlx
  have Hly := Lib.hid hly
  have hne : ((n : Int) != (n : Int)) = false := by simp
  clear hlx hly
  go_enter Tryz.func31, Tryz.ntmps31
  go_wp2_with fail
  go_loopg [5] n (fun k s5 wr => ∃ j : Nat, k = n - j ∧ j ≤ n ∧ s5 = .int .i64 j ∧ xs.take j = ys.take j ∧ Below w.heap.size w wr)
  case atStart => exact ⟨0, by omega, by omega, rfl, rfl, Below.refl _ _⟩
  case round =>
    obtain ⟨j, hk, hj, rfl, heq, hb⟩ := hrel
    have Hk := Lib.hid hk
    have Heq := Lib.hid heq
    clear hk heq
    by_cases hlt : j < n
    · obtain ⟨b1, o1, z1, rfl, _, _, hz1, hc1⟩ := ii_cell (hx.below hb) hlt
      obtain ⟨b2, o2, z2, rfl, _, _, hz2, hc2⟩ := ii_cell (hy.below hb) hlt
      have Hz1 := Lib.hid hz1
      have Hz2 := Lib.hid hz2
      clear hz1 hz2
      have hjn : (j : Int) < n := by omega
      have h0j : (0 : Int) ≤ j := by omega
      by_cases hzz : z1 = z2
      · subst hzz
        have hs : xs.take (j + 1) = ys.take (j + 1) := by rw [List.take_add_one, List.take_add_one, Hz1.out, Hz2.out, Heq.out]
        have Hs := Lib.hid hs
        have hzf : ((z1 : Int) != z1) = false := by simp
        clear hs
        go_wp2_with fail
        go_region
        all_goals
          go_wp2_with fail
          go_roundg (n - (j + 1))
          case measure => have := Hk.out; omega
          case rel => exact ⟨j + 1, rfl, by omega, by go_num, Hs.out, hb.drew⟩
      · have hzf : ((z1 : Int) != z2) = true := by simpa using hzz
        have hne2 : decide (xs = ys) = false := decide_eq_false (by
          intro h
          subst h
          rw [Hz1.out] at Hz2
          exact hzz (Option.some.inj Hz2.out))
        have Hne2 := Lib.hid hne2
        clear hne2 hzz
        go_wp2_with fail
        go_region
        all_goals
          go_wp2_with fail
          go_ret
          exact ⟨ret_bool Hne2.out.symm, hb.drew⟩
    · obtain rfl : j = n := by omega
      have hyes : decide (xs = ys) = true := decide_eq_true (by
        have := Heq.out
        rwa [List.take_of_length_le (Nat.le_of_eq Hlx.out), List.take_of_length_le (Nat.le_of_eq Hly.out)] at this)
      have Hyes := Lib.hid hyes
      clear hyes
      go_wp2_with fail
      go_ret
      exact ⟨ret_bool Hyes.out.symm, hb⟩
theorem ints_any (A : Option Addr) (n c : Nat) (B : Option Addr) (m d : Nat) (xs ys : List Int) (w : World) {ok ok' : Nat → Prop} (hx : Rd w ok 1 A n (ii xs)) (hy : Rd w ok' 1 B m (ii ys)) (hn : n ≤ 9223372036854775807) :
    Calls Tryz.prog 31 #[.slice A n c, .slice B m d] w (BoolPost w (decide (xs = ys))) := by
  have hlx : xs.length = n := by have := hx.1; simpa [ii] using this
  have hly : ys.length = m := by have := hy.1; simpa [ii] using this
  by_cases h : n = m
  · subst h
    exact ints_same A n c B d xs ys w hx hy hn
  · rw [decide_eq_false (fun e => h (by rw [← hlx, ← hly, e]))]
    exact ints_short A n c B m d w (by simp; omega)
end Go.Proofs.YtlecglmiigdjlaaGreatDoor
