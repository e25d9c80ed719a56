/- What is kept, as it lies in memory.
   Walk: slices.Backward over entries.
   Numbers as the walk spells them.
   A region that draws its order, walked by one schedule: what only reads comes as soon as it can (under a condition S that holds behind every operation, but for a last one), what acts comes where it must.
   Walk: a member's wait is drawn: (*raft.Core).draws.
   Plain member: raft.Core as plain values, and what each of its functions makes of it -/
import Derived.Test.YtmhaahcbmdhinaaGreatDoorZM8
import Derived.RangeFuncNested
import Derived.RangeFuncLeaves
import Derived.RangeFuncBox
import Derived.Shelf.Abstract
import Derived.OwnWalkIn
import Derived.TacticsInMore
import Derived.LoopNIn
import Derived.LoopIn
import Derived.WalkKit
import Derived.Test.YtmhaahcbmdhinaaGreatDoorZM7
import Derived.Test.YtmhaahcbmdhinaaGreatDoorZM6
namespace Go.Proofs.YtmhaahcbmdhinaaGreatDoor
open Go.RowKit
set_option linter.unusedVariables false
set_option linter.unusedSimpArgs false
structure Sv where
 tm : Int
 vt : Int
 b : Int
 t : Int
 A : Option Addr
 n : Nat
 c : Nat
 L : List Er
 C : Option Addr
 nc : Nat
 cc : Nat
 cf : List Int
 S : Option Addr
 ns : Nat
 cs : Nat
 sn : List UInt8
def Sv.val (s : Sv) : Value := stA s.tm s.vt s.b s.t s.A s.n s.c s.C s.nc s.cc s.S s.ns s.cs
def Sv.cells (s : Sv) : Array Value := #[.int .i64 s.tm, .int .i64 s.vt, .int .i64 s.b, .int .i64 s.t, .slice s.A s.n s.c, .slice s.C s.nc s.cc, .slice s.S s.ns s.cs]
def Sv.st (s : Sv) : St := ⟨s.tm, s.vt, s.b, s.t, s.L.map en, s.cf, s.sn⟩
structure Sv.At (s : Sv) (W : World) (ok : Nat → Prop) : Prop where
 l : Rd W ok 4 s.A s.n (flat ecell s.L)
 d : ∀ y ∈ s.L, Rd W ok 1 y.A y.n (bs y.d) ∧ y.n ≤ y.m ∧ y.m ≤ maxLen
 cf : Rd W ok 1 s.C s.nc (ii s.cf)
 sn : Rd W ok 1 s.S s.ns (bs s.sn)
 k1 : s.n ≤ s.c ∧ s.c ≤ maxLen
 k2 : s.nc ≤ s.cc ∧ s.cc ≤ maxLen
 k3 : s.ns ≤ s.cs ∧ s.cs ≤ maxLen
structure Sv.Fit (s : Sv) : Prop where
 i : I64 s.tm ∧ I64 s.vt ∧ I64 s.b ∧ I64 s.t
 w : ∀ y ∈ s.L, W64 y ∧ y.n ≤ 1000000
 z : s.n ≤ 1000000 ∧ s.nc ≤ 1000000 ∧ s.ns ≤ 100000000
section
variable {s : Sv} {W W' : World} {ok ok' : Nat → Prop}
theorem Sv.At.mono (h : s.At W ok) (hk : ∀ b, ok b → ok' b) : s.At W ok' :=
 ⟨h.l.mono hk, fun y hy => ⟨(h.d y hy).1.mono hk, (h.d y hy).2⟩, h.cf.mono hk, h.sn.mono hk, h.k1, h.k2, h.k3⟩
theorem Sv.At.keep (h : s.At W ok) (hk : ∀ b, ok b → b < W.heap.size → W'.heap[b]? = W.heap[b]?) : s.At W' ok :=
 ⟨h.l.keep hk, fun y hy => ⟨(h.d y hy).1.keep hk, (h.d y hy).2⟩, h.cf.keep hk, h.sn.keep hk, h.k1, h.k2, h.k3⟩
theorem Sv.At.below (h : s.At W ok) (hb : Below W.heap.size W W') : s.At W' ok := h.keep fun b _ hl => hb.block b hl
theorem Sv.At.dat (h : s.At W ok) : Dat W s.L := fun y hy => ⟨(h.d y hy).1.any, (h.d y hy).2⟩
theorem Sv.At.lt (h : s.At W ok) : s.At W fun b => ok b ∧ b < W.heap.size :=
 ⟨h.l.lt (by omega), fun y hy => ⟨(h.d y hy).1.lt (by omega), (h.d y hy).2⟩, h.cf.lt (by omega), h.sn.lt (by omega), h.k1, h.k2, h.k3⟩
theorem Sv.At.wel (h : s.At W ok) (hf : s.Fit) : Wel s.L := fun y hy => ⟨(hf.w y hy).1, (h.d y hy).1.blen.symm⟩
end
end Go.Proofs.YtmhaahcbmdhinaaGreatDoor
namespace Go.Proofs.YtmhaahcbmdhinaaGreatDoor
open Go.RowKit Go.Shelf
set_option maxRecDepth 100000
set_option linter.unusedVariables false
set_option linter.unusedSimpArgs false
attribute [local go_sem] Oper.semAt_some
def ev (x : Er) : Value := .agg #[.int .i64 x.a, .int .i64 x.b, .int .i64 x.c, .slice x.A x.n x.m]
def bkc (x : Int × Er) : Array Value := #[.int .i64 x.1, ev x.2]
set_option maxHeartbeats 2000000 in
theorem back1_in (F : Fence) (d : Nat) (h7 : F.fn 209) (hro : F.round = none) (hd : 1 ≤ d) (l Bs n₀ n c : Nat) (A : Option Addr) (L : List Er) (hn : n ≤ 1000000) (J Jx : List (Int × Er) → World → Prop)
  (hY : ∀ pre x W, J pre W → pre.length < n → YieldAt F (d - 1) Tryz.prog l (bkc x) W fun e W' =>
   (e = .returned (.bool true) ∧ J (pre ++ [x]) W' ∧ Below n₀ W W') ∨ (e = .returned (.bool false) ∧ Jx (pre ++ [x]) W'))
  (W : World) (hBs : W.cell? ⟨Bs, 0, none⟩ = some (.slice A n c)) (hBl : Bs < n₀) (hr : Rd W (· < n₀) 4 A n (flat ecell L)) (h0 : J [] W) :
  CallsIn F d Tryz.prog 209 #[.func (.yield l) #[] #[], .pointer (some ⟨Bs, 0, none⟩)] W fun e W' => (∃ v, e = .returned v) ∧
   ((∃ ys, ys.map Prod.snd = L.reverse ∧ J ys W') ∨ (∃ pre, pre.map Prod.snd <+: L.reverse ∧ Jx pre W')) := by
 have hl := hr.flen ecell_len (by omega)
 refine callsIn_of_wp Tryz.func209 rfl h7 ?_ hro
 simp only [Tryz.ntmps209, List.size_toArray, List.length_cons, List.length_nil, Nat.reduceAdd, Nat.reduceSub, Array.replicate_succ, Array.replicate_zero, List.push_toArray, List.append_toArray, List.nil_append, List.cons_append]
 have e1 : IntKind.i64.wrap ((n : Int) - 1) = (n : Int) - 1 := by rw [IntKind.wrap_i64]; omega
 gi_wp2
 gi_loopw [3] (fun i wr => ∃ (k : Nat) (pre : List (Int × Er)), k ≤ n ∧ i = .int .i64 ((k : Int) - 1) ∧ pre.map Prod.snd = L.reverse.take (n - k) ∧ J pre wr ∧ Below n₀ W wr)
  (fun i _ => (intOf i + 1).toNat)
 case atStart => exact ⟨n, [], Nat.le_refl _, rfl, by simp, h0, Below.refl _ _⟩
 case round =>
  obtain ⟨k, pre, hk, rfl, hp, hJs, hnx⟩ := hrel
  have hBw := (hnx.cell (p := ⟨Bs, 0, none⟩) hBl).trans hBs
  have hpl : pre.length = n - k := by
   have := congrArg List.length hp
   rw [List.length_map, List.length_take, List.length_reverse, hl] at this
   omega
  cases k with
  | zero =>
   gi_wp2
   go_end0
   exact ⟨⟨_, rfl⟩, .inl ⟨pre, by rw [hp, ← hl, Nat.sub_zero, ← List.length_reverse, List.take_length], hJs⟩⟩
  | succ m =>
   have e2 : ((m + 1 : Nat) : Int) - 1 = (m : Int) := by omega
   rw [e2]
   obtain ⟨b, o, x, rfl, hb, hlt, hx, c0, c1, c2, c3⟩ := er_cells (hr.keep (w' := wr) fun q hq _ => hnx.block q hq) (j := m) (by omega)
   obtain ⟨fn, tmps, assign, body, hy, hR⟩ := hY pre ((m : Int), x) wr hJs (by omega)
   unfold bkc ev at hy
   dsimp only at hy
   have e3 : IntKind.i64.wrap ((m : Int) - 1) = (m : Int) - 1 := by rw [IntKind.wrap_i64]; omega
   have hxp : (pre ++ [((m : Int), x)]).map Prod.snd = L.reverse.take (n - m) := by
    have e4 : n - m = (n - (m + 1)) + 1 := by omega
    have e5 : L.reverse[n - (m + 1)]? = some x := by
     rw [List.getElem?_reverse (by omega)]
     rw [show L.length - 1 - (n - (m + 1)) = m from by omega]
     exact hx
    rw [List.map_append, hp, e4, List.take_add_one, e5]
    rfl
   gi_wp2
   refine hR.mono ?_
   rintro e W3 (⟨rfl, hJ3, hk3⟩ | ⟨rfl, hJx3⟩)
   ·gi_wp2
    go_roundw
    case rel => exact ⟨m, _, by omega, rfl, hxp, hJ3, hnx.trans hk3⟩
    case measure => simp [intOf]
   ·gi_wp2
    refine bodyPost_ret (results_none rfl _ _ _) rfl ?_
    exact ⟨⟨_, rfl⟩, .inr ⟨_, by rw [hxp]; exact List.take_prefix _ _, hJx3⟩⟩
set_option maxHeartbeats 1000000 in
theorem back_in (F : Fence) (d : Nat) (h5 : F.fn 171) (hro : F.round = none) (a : Option Addr) (len cap : Nat) (w : World) :
  CallsIn F d Tryz.prog 171 #[.slice a len cap] w fun e w' => e = .returned (.func (.func 209) #[] #[.pointer (some ⟨w.heap.size, 0, none⟩)]) ∧ w' = w.alloc (.cells #[.slice a len cap] 36) := by
 refine callsIn_of_wp Tryz.func171 rfl h5 ?_ hro
 simp only [Tryz.ntmps171, List.size_toArray, List.length_cons, List.length_nil, Nat.reduceAdd, Nat.reduceSub, Array.replicate_succ, Array.replicate_zero, List.push_toArray, List.append_toArray, List.nil_append, List.cons_append]
 gi_wp2
 go_ret
 exact ⟨rfl, rfl⟩
end Go.Proofs.YtmhaahcbmdhinaaGreatDoor
namespace Go.Proofs.YtmhaahcbmdhinaaGreatDoor
open Go.RowKit
theorem u64_wrap (z : Int) : IntKind.u64.wrap z = z % 18446744073709551616 := by
 simp [IntKind.wrap, IntKind.signed, IntKind.bits]
theorem uint_mod (z : Int) (d : Nat) (dI : Int) (hdI : dI = d) (h1 : 1 ≤ d) (h2 : d ≤ 1000000) : ∃ K : Nat, K < d ∧ (K : Int) = (z % 18446744073709551616) % d ∧ (IntKind.u64.wrap z).tmod dI = K ∧ wrap64 ((IntKind.u64.wrap z).tmod dI) = K := by
 subst hdI
 have h0 : 0 ≤ z % 18446744073709551616 := Int.emod_nonneg _ (by decide)
 have hd : 0 ≤ (z % 18446744073709551616) % (d : Int) := Int.emod_nonneg _ (by omega)
 have hl : (z % 18446744073709551616) % (d : Int) < d := Int.emod_lt_of_pos _ (by omega)
 have e : (IntKind.u64.wrap z).tmod (d : Int) = (((z % 18446744073709551616) % (d : Int)).toNat : Int) := by
  rw [u64_wrap, Int.tmod_eq_emod_of_nonneg h0, Int.toNat_of_nonneg hd]
 have e2 : wrap64 ((((z % 18446744073709551616) % (d : Int)).toNat : Nat) : Int) = (((z % 18446744073709551616) % (d : Int)).toNat : Int) := IntWalk.wrap64_in _ ⟨by omega, by omega⟩
 exact ⟨((z % 18446744073709551616) % (d : Int)).toNat, by omega, by omega, e, by rw [e, e2]⟩
end Go.Proofs.YtmhaahcbmdhinaaGreatDoor
namespace Go.Proofs.YtmhaahcbmdhinaaGreatDoor
set_option linter.unusedVariables false
inductive Sch where
 | nil : Sch
 | take : Nat → Sch → Sch
 | one : Nat → Sch → Sch
 | two : Nat → Nat → Sch → Sch → Sch
def Sch.isNil : Sch → Bool
 | .nil => true
 | _ => false
section
variable {P : Program} {ops : Array Oper} {Q : Exit → Act → World → Prop} {md : Region.Mode} {S : World → Prop}
def schedB (md : Region.Mode) (ops : Array Oper) (n : Nat) : Nat → Sch → Array Bool → Bool
 | _, .nil, listed => (Region.ready md ops listed).isEmpty
 | 0, _, _ => false
 | f + 1, .take i s, listed => Region.free md ops listed i && (Region.ready md ops listed).contains i && decide (i < n) && (decide (ops.size ≤ n) || invB md ops n listed) && schedB md ops n f s (listed.setIfInBounds i true)
 | f + 1, .one i s, listed => decide (Region.ready md ops listed = [i]) && (decide (i ≠ n) || s.isNil) && schedB md ops n f s (listed.setIfInBounds i true)
 | f + 1, .two i j s s', listed => decide (Region.ready md ops listed = [i, j]) && decide (i ≠ n) && decide (j ≠ n) && schedB md ops n f s (listed.setIfInBounds i true) && schedB md ops n f s' (listed.setIfInBounds j true)
def wpS (P : Program) (ops : Array Oper) (Q : Exit → Act → World → Prop) (n : Nat) : Sch → (World → Prop) → Act → World → Prop
 | .nil, S, a, w => Q .normal a w
 | .take i s, S, a, w => ∃ (oi : Oper) (v : Value), ops[i]? = some oi ∧ ((Region.wanted oi (yielded ops a.tmps) = true ∧ ∀ w, S w → (execOp a.eval oi).run P w = .ok (.value v) w) ∨ (Region.wanted oi (yielded ops a.tmps) = false ∧ v = undef)) ∧ wpS P ops Q n s S (a.put oi.dst v) w
 | .one i s, S, a, w => ∃ o : Oper, ops[i]? = some o ∧ if Region.wanted o (yielded ops a.tmps) = true then Oper.wp P o a w (fun a' w' => ∃ S' : World → Prop, (i ≠ n → (∀ W, S' W → S W) ∧ S' w') ∧ wpS P ops Q n s S' a' w') Q else wpS P ops Q n s S (a.put o.dst undef) w
 | .two i j s s', S, a, w => (∃ o : Oper, ops[i]? = some o ∧ if Region.wanted o (yielded ops a.tmps) = true then Oper.wp P o a w (fun a' w' => ∃ S' : World → Prop, ((∀ W, S' W → S W) ∧ S' w') ∧ wpS P ops Q n s S' a' w') Q else wpS P ops Q n s S (a.put o.dst undef) w) ∧
   (∃ o : Oper, ops[j]? = some o ∧ if Region.wanted o (yielded ops a.tmps) = true then Oper.wp P o a w (fun a' w' => ∃ S' : World → Prop, ((∀ W, S' W → S W) ∧ S' w') ∧ wpS P ops Q n s' S' a' w') Q else wpS P ops Q n s' S (a.put o.dst undef) w)
theorem wpAnyM_weak {n : Nat} {S S' : World → Prop} (h : ∀ W, S' W → S W) : ∀ (fuel : Nat) (listed : Array Bool) (a : Act) (w : World), wpAnyM P md ops Q S' n fuel listed a w → wpAnyM P md ops Q S n fuel listed a w
 | 0, _, _, _, h' => h'
 | fuel + 1, _, _, _, h' => ⟨h'.1, fun i hi => wpOp_mono (fun a' w' q => ⟨fun hn => h _ (q.1 hn), wpAnyM_weak h fuel _ a' w' q.2⟩) (h'.2 i hi)⟩
theorem put_shape (a : Act) (d : Option Tmp) (v : Value) : a.put d v = { a with tmps := (a.put d v).tmps } := by cases d <;> rfl
theorem wpAnyM_firstN {n i : Nat} {oi : Oper} {v : Value} (hi : ops[i]? = some oi) (hsel : ∀ (j : Nat) (o : Oper) cs b, ops[j]? = some o → o.op ≠ .select cs b)
  (hN : ops.size ≤ n)
  (hQ : ∀ c a w, Q (.panic c) (a.put oi.dst v) w → Q (.panic c) a w) (fuel : Nat) :
  ∀ (listed : Array Bool) (a : Act) (w : World),
   (∀ j oj, ops[j]? = some oj → j ≠ i → listed.getD j true = false → (∀ e ∈ oj.after, Region.binds md e = true → e.on ≠ i) → oi.apart ops oj = true) →
   i ∈ Region.ready md ops listed → YieldsIf P ops S oi v a → S w →
   wpAnyM P md ops Q S n fuel (listed.setIfInBounds i true) (a.put oi.dst v) w → wpAnyM P md ops Q S n (fuel + 1) listed a w := by
 induction fuel with
 | zero =>
  intro listed a w _ hr hy hS H
  refine ⟨fun h => (by rw [h] at hr; cases hr), fun j hj => ?_⟩
  by_cases hji : j = i
  ·subst hji
   exact hy.wpOp hi hS ⟨fun _ => hS, H⟩
  ·have := ready_mono hj hji
   rw [H.1] at this
   cases this
 | succ fuel ih =>
  intro listed a w hfree hr hy hS H
  refine ⟨fun h => (by rw [h] at hr; cases hr), fun j hj => ?_⟩
  by_cases hji : j = i
  ·subst hji
   exact hy.wpOp hi hS ⟨fun _ => hS, H⟩
  ·have h1 := H.2 j (ready_mono hj hji)
   obtain ⟨hjun, oj, hoj, hall⟩ := mem_ready.1 hj
   have hun := (mem_ready.1 hr).1
   have hjl := (Array.getElem?_eq_some_iff.1 hoj).1
   have hjn : j ≠ n := by omega
   have hno : ∀ e ∈ oj.after, Region.binds md e = true → e.on ≠ i := by
    intro e he hb h
    have h2 := hall e he hb
    rw [h, getD_both hun] at h2
    cases h2
   have h2 := wpOp_putIf hoj (hfree j oj hoj hji hjun hno) (fun cs b => hsel i oi cs b hi) (fun cs b => hsel j oj cs b hoj) hQ hy h1
   have hri : i ∈ Region.ready md ops (listed.setIfInBounds j true) := ready_mono hr (Ne.symm hji)
   refine wpOp_mono (fun a' w' h3 => ?_) h2
   obtain ⟨hy3, hS3, H3⟩ := h3
   have hfree' : ∀ k ok, ops[k]? = some ok → k ≠ i → (listed.setIfInBounds j true).getD k true = false → (∀ e ∈ ok.after, Region.binds md e = true → e.on ≠ i) → oi.apart ops ok = true := by
    intro k ok hk hki hku hkn
    refine hfree k ok hk hki ?_ hkn
    by_cases hjk : j = k
    ·subst hjk
     exact hjun
    ·rwa [getD_set_ne true hjk] at hku
   rw [Array.setIfInBounds_comm _ _ (Ne.symm hji)] at H3
   exact ⟨fun _ => hS3 hjn, ih _ a' w' hfree' hri hy3 (hS3 hjn) H3⟩
theorem wpAnyM_of_S {n : Nat} (hsel : Region.noSelect ops = true) (hk : (decide (ops.size ≤ n) || (Region.sinkB md ops n && decide (n + 1 = ops.size))) = true)
  (hQ : ∀ c (a : Act) (t : Array Value) w, Q (.panic c) { a with tmps := t } w → Q (.panic c) a w) : ∀ (fuel : Nat) (s : Sch) (S : World → Prop) (listed : Array Bool) (a : Act) (w : World), schedB md ops n fuel s listed = true → (s.isNil = false → S w) → wpS P ops Q n s S a w → wpAnyM P md ops Q S n fuel listed a w := by
 intro fuel
 induction fuel with
 | zero =>
  intro s S listed a w hb hS h
  cases s with
  | nil =>
   simp only [schedB, List.isEmpty_iff] at hb
   exact ⟨hb, h⟩
  | take => simp [schedB] at hb
  | one => simp [schedB] at hb
  | two => simp [schedB] at hb
 | succ fuel ih =>
  intro s S listed a w hb hS h
  cases s with
  | nil =>
   simp only [schedB, List.isEmpty_iff] at hb
   exact wpAnyM_done hb h _
  | take i s =>
   simp only [schedB, Bool.and_eq_true, decide_eq_true_eq] at hb
   obtain ⟨⟨⟨⟨hf, hr⟩, hin⟩, hinv⟩, hrest⟩ := hb
   obtain ⟨oi, v, hi, hy, hs⟩ := h
   have hS0 := hS rfl
   have hrec := ih s S (listed.setIfInBounds i true) (a.put oi.dst v) w hrest (fun _ => hS0) hs
   have hy' : YieldsIf P ops S oi v a := hy
   by_cases hN : ops.size ≤ n
   ·exact wpAnyM_firstN hi (Region.noSelect_spec hsel) hN (fun c a w => by rw [put_shape]; exact hQ c a _ w) fuel listed a w (Region.free_spec hi hf) (by simpa using hr) hy' hS0 hrec
   ·simp only [hN, decide_false, Bool.false_or, Bool.and_eq_true, decide_eq_true_eq] at hk hinv
    exact wpAnyM_first hi (Region.noSelect_spec hsel) hk.1 hk.2 hin (fun c a w => by rw [put_shape]; exact hQ c a _ w) fuel listed a w (inv_of hinv) (Region.free_spec hi hf) (by simpa using hr) hy' hS0 hrec
  | one i s =>
   simp only [schedB, Bool.and_eq_true, Bool.or_eq_true, decide_eq_true_eq] at hb
   obtain ⟨⟨hr, hlast⟩, hrest⟩ := hb
   obtain ⟨o, ho, h⟩ := h
   refine wpAnyM_one hr ho (fun K hK => ?_)
   split
   ·rename_i hw
    rw [if_pos hw] at h
    refine Oper.wp_mono (fun a' w' h' => ?_) h
    obtain ⟨S', h1, h2⟩ := h'
    have hrec := ih s S' _ a' w' hrest (fun hn => ?_) h2
    ·by_cases hin : i = n
     ·rcases hlast with h3 | h3
      ·exact absurd hin h3
      ·refine hK a' w' (fun h => absurd hin h) ?_
       cases s with
       | nil =>
        cases fuel with
        | zero => simp only [schedB, List.isEmpty_iff] at hrest; exact ⟨hrest, h2⟩
        | succ f => simp only [schedB, List.isEmpty_iff] at hrest; exact wpAnyM_done hrest h2 _
       | take => cases h3
       | one => cases h3
       | two => cases h3
     ·exact hK a' w' (fun hn => (h1 hn).1 _ (h1 hn).2) (wpAnyM_weak (h1 hin).1 _ _ _ _ hrec)
    ·rcases hlast with h3 | h3
     ·exact (h1 h3).2
     ·rw [hn] at h3; cases h3
   ·rename_i hw
    rw [if_neg hw] at h
    exact hK _ _ (fun _ => hS rfl) (ih s S _ _ _ hrest (fun _ => hS rfl) h)
  | two i j s s' =>
   simp only [schedB, Bool.and_eq_true, decide_eq_true_eq] at hb
   obtain ⟨⟨⟨⟨hr, hni⟩, hnj⟩, hrest⟩, hrest'⟩ := hb
   obtain ⟨⟨o, ho, h⟩, ⟨o', ho', h'⟩⟩ := h
   refine wpAnyM_two hr ho ho' (fun K hK => ?_) (fun K hK => ?_)
   ·split
    ·rename_i hw
     rw [if_pos hw] at h
     refine Oper.wp_mono (fun a' w' q => ?_) h
     obtain ⟨S', h1, h2⟩ := q
     exact hK a' w' (fun _ => h1.1 _ h1.2) (wpAnyM_weak h1.1 _ _ _ _ (ih s S' _ a' w' hrest (fun _ => h1.2) h2))
    ·rename_i hw
     rw [if_neg hw] at h
     exact hK _ _ (fun _ => hS rfl) (ih s S _ _ _ hrest (fun _ => hS rfl) h)
   ·split
    ·rename_i hw
     rw [if_pos hw] at h'
     refine Oper.wp_mono (fun a' w' q => ?_) h'
     obtain ⟨S', h1, h2⟩ := q
     exact hK a' w' (fun _ => h1.1 _ h1.2) (wpAnyM_weak h1.1 _ _ _ _ (ih s' S' _ a' w' hrest' (fun _ => h1.2) h2))
    ·rename_i hw
     rw [if_neg hw] at h'
     exact hK _ _ (fun _ => hS rfl) (ih s' S _ _ _ hrest' (fun _ => hS rfl) h')
theorem wp_region_S {id : Nat} {a : Act} {w : World} (n : Nat) (S : World → Prop) (s : Sch)
  (hb : (P.follows .mixedOrders && Region.noSelect ops && (decide (ops.size ≤ n) || (Region.sinkB .any ops n && decide (n + 1 = ops.size))) && schedB .any ops n ops.size s (Array.replicate ops.size false)) = true) (hS : S w.drew)
  (hQ : ∀ c (a : Act) (t : Array Value) w, Q (.panic c) { a with tmps := t } w → Q (.panic c) a w)
  (h : S w.drew → wpS P ops Q n s S a w.drew) : (Code.region id ops true).wp P Q a w := by
 simp only [Bool.and_eq_true] at hb
 exact wp_region_any hb.1.1.1 (wpAny_of_M _ _ _ _ (wpAnyM_of_S hb.1.1.2 hb.1.2 hQ _ _ _ _ _ _ hb.2 (fun _ => hS) (h hS)))
theorem wpS_take {n i : Nat} {d : Nat} {oi : Oper} {v : Value} {s : Sch} {a : Act} {w : World} (hi : ops[i]? = some oi) (hd : oi.dst = some d) (hw : Region.wanted oi (yielded ops a.tmps) = true)
  (hy : ∀ w, S w → (execOp a.eval oi).run P w = .ok (.value v) w) (h : wpS P ops Q n s S (a.put (some d) v) w) : wpS P ops Q n (.take i s) S a w :=
 ⟨oi, v, hi, .inl ⟨hw, hy⟩, by rw [hd]; exact h⟩
theorem wpS_skip {n i : Nat} {d : Nat} {oi : Oper} {s : Sch} {a : Act} {w : World} (hi : ops[i]? = some oi) (hd : oi.dst = some d) (hw : Region.wanted oi (yielded ops a.tmps) = false)
  (h : wpS P ops Q n s S (a.put (some d) undef) w) : wpS P ops Q n (.take i s) S a w :=
 ⟨oi, undef, hi, .inr ⟨hw, rfl⟩, by rw [hd]; exact h⟩
theorem wpS_pass {n i : Nat} {d : Nat} {oi : Oper} {s : Sch} {a : Act} {w : World} (hi : ops[i]? = some oi) (hd : oi.dst = some d) (hw : Region.wanted oi (yielded ops a.tmps) = false)
  (h : wpS P ops Q n s S (a.put (some d) undef) w) : wpS P ops Q n (.one i s) S a w :=
 ⟨oi, hi, by rw [hw, hd]; simpa using h⟩
theorem wpS_one {n i : Nat} {o : Oper} {s : Sch} {a : Act} {w : World} (ho : ops[i]? = some o) (hw : Region.wanted o (yielded ops a.tmps) = true)
  (h : ∀ K : Act → World → Prop, (∀ (S' : World → Prop) a w, (∀ W, S' W → S W) → S' w → wpS P ops Q n s S' a w → K a w) → Oper.wp P o a w K Q) : wpS P ops Q n (.one i s) S a w := by
 refine ⟨o, ho, ?_⟩
 rw [if_pos hw]
 exact h _ (fun S' a w h1 h2 h3 => ⟨S', fun _ => ⟨h1, h2⟩, h3⟩)
theorem wpS_last {n : Nat} {o : Oper} {s : Sch} {a : Act} {w : World} (ho : ops[n]? = some o) (hw : Region.wanted o (yielded ops a.tmps) = true)
  (h : ∀ K : Act → World → Prop, (∀ a w, wpS P ops Q n s S a w → K a w) → Oper.wp P o a w K Q) : wpS P ops Q n (.one n s) S a w := by
 refine ⟨o, ho, ?_⟩
 rw [if_pos hw]
 exact h _ (fun a w h3 => ⟨S, fun hn => absurd rfl hn, h3⟩)
theorem wpS_two {n i j : Nat} {o o' : Oper} {s s' : Sch} {a : Act} {w : World} (ho : ops[i]? = some o) (ho' : ops[j]? = some o') (hw : Region.wanted o (yielded ops a.tmps) = true) (hw' : Region.wanted o' (yielded ops a.tmps) = true)
  (h : ∀ K : Act → World → Prop, (∀ (S' : World → Prop) a w, (∀ W, S' W → S W) → S' w → wpS P ops Q n s S' a w → K a w) → Oper.wp P o a w K Q)
  (h' : ∀ K : Act → World → Prop, (∀ (S' : World → Prop) a w, (∀ W, S' W → S W) → S' w → wpS P ops Q n s' S' a w → K a w) → Oper.wp P o' a w K Q) : wpS P ops Q n (.two i j s s') S a w := by
 refine ⟨⟨o, ho, ?_⟩, ⟨o', ho', ?_⟩⟩
 ·rw [if_pos hw]
  exact h _ (fun S' a w h1 h2 h3 => ⟨S', ⟨h1, h2⟩, h3⟩)
 ·rw [if_pos hw']
  exact h' _ (fun S' a w h1 h2 h3 => ⟨S', ⟨h1, h2⟩, h3⟩)
theorem wpS_nil {n : Nat} {a : Act} {w : World} (h : Q .normal a w) : wpS P ops Q n .nil S a w := h
end
end Go.Proofs.YtmhaahcbmdhinaaGreatDoor
namespace Go.Proofs.YtmhaahcbmdhinaaGreatDoor
open Go.RowKit
set_option maxRecDepth 100000
set_option linter.unusedVariables false
set_option linter.unusedSimpArgs false
def drw (span draw : Int) : Int := span + (draw % 18446744073709551616) % ((span.toNat + 1 : Nat) : Int)
set_option maxHeartbeats 1600000 in
theorem draws_any (p : Nat) (cs : Array Value) (span draw : Int) (w : World) (h : Bx w p cs) (hc : cs[12]? = some (.int .i64 span)) (hz : 14 < cs.size) (h1 : 2 ≤ span) (h2 : span ≤ 1000) :
  Calls Tryz.prog 38 #[.pointer (some ⟨p, 0, none⟩), .int .i64 draw] w (fun e w' => e = .returned (.tuple #[]) ∧ Bx w' p ((cs.setIfInBounds 13 (.int .i64 0)).setIfInBounds 14 (.int .i64 (drw span draw))) ∧ w.grownBy w' (some p)) := by
 obtain ⟨K, hK1, hK2, hK3, hK4⟩ := uint_mod draw (span.toNat + 1) (span + 1) (by omega) (by omega) (by omega)
 have hd : drw span draw = span + K := by unfold drw; rw [hK2]
 have c12 : w.cell? ⟨p, 12, none⟩ = some (.int .i64 span) := (h.c 12).trans hc
 have f13 : w.frozen? ⟨p, 13, none⟩ = false := h.f 13
 have f14 : w.frozen? ⟨p, 14, none⟩ = false := h.f 14
 have w1 : IntKind.i64.wrap (span + 1) = span + 1 := by rw [IntKind.wrap_i64]; omega
 have w2 : IntKind.u64.wrap (span + 1) = span + 1 := by rw [IntKind.wrap_u64]; omega
 have w3 : IntKind.i64.wrap (span + K) = span + K := by rw [IntKind.wrap_i64]; omega
 have hne : ¬ span + 1 = 0 := by omega
 have w4 : IntKind.i64.wrap (K : Int) = K := by rw [IntKind.wrap_i64]; omega
 obtain ⟨v13, e13⟩ : ∃ v, cs[13]? = some v := ⟨_, Array.getElem?_eq_getElem (by omega)⟩
 obtain ⟨v14, e14⟩ : ∃ v, cs[14]? = some v := ⟨_, Array.getElem?_eq_getElem (by omega)⟩
 have c13 : w.cell? ⟨p, 13, none⟩ = some v13 := (h.c 13).trans e13
 have c14 : w.cell? ⟨p, 14, none⟩ = some v14 := (h.c 14).trans e14
 clear e13 e14
 rw [hd]
 have H := Lib.hid h
 clear h hc hd hK2
 go_enter Tryz.func38, Tryz.ntmps38
 go_region_law (fail)
 all_goals
  go_wp2_with fail
  refine bodyPost_end (results_none rfl _ _ _) (by rfl) ?_
  exact ⟨rfl, ((H.out.set 13 _).set 14 _).drew, gb_trans (gb_trans (gb_set _ p 13 _) (gb_set _ p 14 _)) (below_gb (Below.refl _ _).drew)⟩
end Go.Proofs.YtmhaahcbmdhinaaGreatDoor
namespace Go.Proofs.YtmhaahcbmdhinaaGreatDoor
set_option linter.unusedVariables false
set_option linter.unusedSimpArgs false
structure Pe where
 nx : Int
 mt : Int
 of : Int
 rd : Int
structure Cr where
 s : St
 role : Int
 leader : Int
 commit : Int
 round : Int
 id : Int
 span : Int
 gone : Int
 wait : Int
 votes : List Int
 peers : Int → Option Pe
 key : Int
 hv : List UInt8
structure Ms where
 kind : Int
 fr : Int
 dst : Int
 term : Int
 ix : Int
 lt : Int
 cm : Int
 rd : Int
 ok : Bool
 off : Int
 data : List UInt8
 es : List En
def memE (l : List En) (upto : Int) : Option En := l.reverse.find? fun e => decide (e.c = 2) && decide (e.a ≤ upto)
def hasC (c : List Int) (who : Int) : Bool := cmay c && decide (who ∈ c)
def agr (c : List Int) (f : Int → Int) : Int := if cmay c then ((c.map f).mergeSort fun x y => decide (x ≤ y)).getD ((c.length - 1) / 2) 0 else 0
def addL (b t : Int) (l : List En) (tm k : Int) (d : List UInt8) : Int × List En :=
 if tm < max (lstB t l) 1 ∨ 1099511627776 < tm ∨ k < 0 ∨ 2 < k ∨ 1099511627776 ≤ lstA b l then (1, []) else
 if 4096 < d.length then (2, []) else if 4096 ≤ l.length then (10, []) else (0, l ++ [⟨lstA b l + 1, tm, k, d⟩])
namespace Cr
variable (C : Cr)
def last : Int := lstA C.s.b C.s.l
def upto (ix : Int) : List Int := match memE C.s.l ix with
 | none => C.s.cf
 | some e => (confD e.d).getD C.s.cf
def members : List Int := C.upto C.last
def others : List Int := C.members.filter fun w => !decide (w = C.id)
def of (who : Int) : Pe := (C.peers who).getD ⟨C.last + 1, 0, 0, 0⟩
def say (kind dst : Int) : Ms := ⟨kind, C.id, dst, C.s.tm, 0, 0, 0, 0, false, 0, [], []⟩
def handed : List UInt8 := bytesL (confL C.s.cf) ++ bytesL C.s.sn
def termOf (ix : Int) : Int × Int := compL C.s.b C.s.t C.s.l ix
def pieceOf (off : Int) : List UInt8 × Bool := if off < 0 ∨ (C.handed.length : Int) < off ∨ (off = C.handed.length ∧ 0 < off) then ([], false) else ((C.handed.drop off.toNat).take 1024, decide ((C.handed.length : Int) ≤ off + 1024))
def send (who : Int) : Ms :=
 if C.s.b < (C.of who).nx then
  { C.say 3 who with rd := C.round, ix := (C.of who).nx - 1, cm := C.commit, lt := (C.termOf ((C.of who).nx - 1)).2, es := ((C.s.l.drop ((C.of who).nx - C.s.b - 1).toNat).take 16) }
 else { C.say 5 who with rd := C.round, ix := C.s.b, lt := C.s.t, off := (C.of who).of, data := (C.pieceOf (C.of who).of).1, ok := (C.pieceOf (C.of who).of).2 }
def put (who : Int) (p : Pe) : Cr := { C with peers := fun x => if x = who then some p else C.peers x }
def know (who : Int) : Cr := C.put who (C.of who)
def sendL : Cr → List Int → Cr × List Ms
 | C, [] => (C, [])
 | C, w :: r => ((sendL (C.know w) r).1, (C.know w).send w :: (sendL (C.know w) r).2)
def sendAll : Cr × List Ms := sendL C C.others
def follow (leader : Int) : Cr := { C with role := 0, leader := leader }
def draws (draw : Int) : Cr := { C with gone := 0, wait := drw C.span draw }
def ours : Bool := decide (C.termOf C.commit = (0, C.s.tm))
def reach (who : Int) : Int := max (if who = C.id then max 0 C.last else 0) (max 0 ((C.peers who).elim 0 Pe.mt))
def advance : Cr × List Ms :=
 let n := agr C.members C.reach
 if n ≤ C.commit ∨ C.termOf n ≠ (0, C.s.tm) then (C, []) else
 if hasC C.members C.id = false ∧ (memE C.s.l C.last).all (fun e => decide (e.a ≤ n)) = true then (({ C with commit := n } : Cr).follow 0, []) else sendAll { C with commit := n }
def may : Bool := hasC C.members C.id || (memE C.s.l C.last).any fun e => decide (C.commit < e.a) && hasC (C.upto (e.a - 1)) C.id
def knowL : Cr → List Int → Cr
 | C, [] => C
 | C, w :: r => knowL (C.know w) r
def withLog (l : List En) : Cr := { C with s := { C.s with l := l } }
def tell : Cr × List Ms := (C.sendAll.1.advance.1, C.sendAll.2 ++ C.sendAll.1.advance.2)
def lead : Cr × List Ms :=
 let C1 := knowL { C with role := 2, leader := C.id, gone := 0, peers := fun _ => none } C.others
 let r := addL C1.s.b C1.s.t C1.s.l C1.s.tm 0 []
 if r.1 = 0 then (C1.withLog r.2).tell else (C1.follow 0, [])
def stand (draw : Int) : Cr × List Ms :=
 let C1 := ({ C with s := { C.s with tm := C.s.tm + 1, vt := C.id }, role := 1, leader := 0, votes := [C.id] } : Cr).draws draw
 if quor C1.members C1.votes = true then C1.lead else (C1, C1.others.map fun w => { C1.say 1 w with ix := lstA C1.s.b C1.s.l, lt := lstB C1.s.t C1.s.l })
def tick (draw : Int) : Cr × List Ms :=
 let C1 : Cr := { C with gone := C.gone + 1 }
 if C1.role = 2 then (if C1.gone < max 1 (C1.span.tdiv 4) then (C1, []) else sendAll { C1 with gone := 0 }) else
 if C1.gone < C1.wait then (C1, []) else
 let C2 : Cr := { C1 with gone := 0 }
 if C2.may = false ∨ 1099511627776 ≤ C2.s.tm then (C2, []) else C2.stand draw
def change (d : List UInt8) : Int :=
 if (memE C.s.l C.last).any (fun e => decide (C.commit < e.a)) = true ∨ C.ours = false then 31 else
 match confD d with
 | none => 1
 | some l => if near l C.members = false ∨ l = C.members then 1 else 0
def propose (kind : Int) (d : List UInt8) : Cr × Int × List Ms × Int :=
 if C.role ≠ 2 then (C, 0, [], 30) else
 if kind = 2 ∧ C.change d ≠ 0 then (C, 0, [], C.change d) else
 let r := addL C.s.b C.s.t C.s.l C.s.tm kind d
 if r.1 ≠ 0 then (C, 0, [], r.1) else ((C.withLog r.2).tell.1, (C.withLog r.2).last, (C.withLog r.2).tell.2, 0)
def compact (ix : Int) (sn : List UInt8) : Cr × Int :=
 if C.commit < ix then (C, 4) else if 1047552 < sn.length then (C, 2) else
 if (C.termOf ix).1 ≠ 0 then (C, (C.termOf ix).1) else
 ({ C with s := { C.s with b := ix, t := (C.termOf ix).2, l := C.s.l.drop (ix - C.s.b).toNat, cf := C.upto ix, sn := sn }, peers := fun w => (C.peers w).map fun p => { p with of := 0 } }, 0)
end Cr
end Go.Proofs.YtmhaahcbmdhinaaGreatDoor
