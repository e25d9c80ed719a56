/- entry.Compact at the log's own base: the log, of its own.
   What is kept, as it lies in memory.
   A region that draws its order, walked by one schedule: what only reads comes as soon as it can (under a condition S that holds behind every operation, but for a last one), what acts comes where it must.
   Walks: bytes.Equal, slices.Equal of members.
   Walks: whether two entries are alike, whether the same is kept: stable.alike, slices.EqualFunc, stable.same. -/
import Derived.Test.YtlecglmiigdjlaaGreatDoorZb11
import Derived.Test.YtlecglmiigdjlaaGreatDoorZb9
import Derived.Test.YtlecglmiigdjlaaGreatDoorZb6
namespace Go.Proofs.YtlecglmiigdjlaaGreatDoor
open Go.RowKit
set_option maxRecDepth 100000
set_option linter.unusedVariables false
set_option linter.unusedSimpArgs false
theorem termL_base {b t : Int} {l : List En} (h : lmay b t l = true) : termL b t l b = (0, t) := by
  have h1 := lmay_last h
  have h2 := (lmay_iff.1 h).1
  unfold termL
  rw [if_neg (by rw [h1]; omega), if_neg (by omega), if_pos rfl]
def LogOwn (W : World) (b t : Int) (n : Nat) (L : List Er) (e : Ending) (w' : World) : Prop :=
  ∃ A c L', e = .returned (.tuple #[.agg #[.int .i64 b, .int .i64 t, .slice A n c], .nilIface]) ∧ Rd w' (W.heap.size ≤ ·) 4 A n (flat ecell L') ∧ DatB w' W.heap.size L' ∧ L'.map en = L.map en ∧ (n ≤ c ∧ c ≤ maxLen) ∧ Below W.heap.size W w'
theorem comp_own (b t : Int) (A : Option Addr) (n c : Nat) (L : List Er) (w : World) (hr : Rd w T 4 A n (flat ecell L)) (hd : Dat w L) (hw : Wel L) (hs : ∀ x ∈ L, x.n ≤ 1000000) (hm : lmay b t (L.map en) = true) (hn : n ≤ 1000000) (hc : n ≤ c) (hcm : c ≤ maxLen) :
    Calls Tryz.prog 70 #[.agg #[.int .i64 b, .int .i64 t, .slice A n c], .int .i64 b] w (LogOwn w b t n L) := by
  have h := comp_any b t b A n c L w hr hd hw hs hm hn hc hcm
  rw [termL_base hm] at h
  refine h.mono ?_
  intro e w' hp
  unfold CompPost at hp
  rw [if_pos rfl] at hp
  obtain ⟨A', c', L', m, e1, h1, h2, h3, h4, h5, h6, h7⟩ := hp
  obtain rfl : m = 0 := by omega
  exact ⟨A', c', L', e1, h3, h4, by simpa using h5, by simpa using h6, h7⟩
end Go.Proofs.YtlecglmiigdjlaaGreatDoor
namespace Go.Proofs.YtlecglmiigdjlaaGreatDoor
open Go.RowKit
set_option linter.unusedVariables false
set_option linter.unusedSimpArgs false
structure Sv where
  tm : Int
  vt : Int
  b : Int
  t : Int
  A : Option Addr
  n : Nat
  c : Nat
  L : List Er
  C : Option Addr
  nc : Nat
  cc : Nat
  cf : List Int
  S : Option Addr
  ns : Nat
  cs : Nat
  sn : List UInt8
def Sv.val (s : Sv) : Value := stA s.tm s.vt s.b s.t s.A s.n s.c s.C s.nc s.cc s.S s.ns s.cs
def Sv.cells (s : Sv) : Array Value := #[.int .i64 s.tm, .int .i64 s.vt, .int .i64 s.b, .int .i64 s.t, .slice s.A s.n s.c, .slice s.C s.nc s.cc, .slice s.S s.ns s.cs]
def Sv.st (s : Sv) : St := ⟨s.tm, s.vt, s.b, s.t, s.L.map en, s.cf, s.sn⟩
theorem Sv.c7 {s : Sv} {W : World} {g : Nat} (h : Bx W g s.cells) : W.cell? ⟨g, 0, none⟩ = some (.int .i64 s.tm) ∧ W.cell? ⟨g, 1, none⟩ = some (.int .i64 s.vt) ∧ W.cell? ⟨g, 2, none⟩ = some (.int .i64 s.b) ∧ W.cell? ⟨g, 3, none⟩ = some (.int .i64 s.t) ∧ W.cell? ⟨g, 4, none⟩ = some (.slice s.A s.n s.c) ∧ W.cell? ⟨g, 5, none⟩ = some (.slice s.C s.nc s.cc) ∧ W.cell? ⟨g, 6, none⟩ = some (.slice s.S s.ns s.cs) := Bx.c7 h
/-- It lies in blocks that are ok. -/
structure Sv.At (s : Sv) (W : World) (ok : Nat → Prop) : Prop where
  l : Rd W ok 4 s.A s.n (flat ecell s.L)
  d : ∀ y ∈ s.L, Rd W ok 1 y.A y.n (bs y.d) ∧ y.n ≤ y.m ∧ y.m ≤ maxLen
  cf : Rd W ok 1 s.C s.nc (ii s.cf)
  sn : Rd W ok 1 s.S s.ns (bs s.sn)
  k1 : s.n ≤ s.c ∧ s.c ≤ maxLen
  k2 : s.nc ≤ s.cc ∧ s.cc ≤ maxLen
  k3 : s.ns ≤ s.cs ∧ s.cs ≤ maxLen
/-- Its numbers are what the machine can hold, and none is too long. -/
structure Sv.Fit (s : Sv) : Prop where
  i : I64 s.tm ∧ I64 s.vt ∧ I64 s.b ∧ I64 s.t
  w : ∀ y ∈ s.L, W64 y ∧ y.n ≤ 1000000
  z : s.n ≤ 1000000 ∧ s.nc ≤ 1000000 ∧ s.ns ≤ 100000000
section
variable {s : Sv} {W W' : World} {ok ok' : Nat → Prop}
theorem Sv.At.mono (h : s.At W ok) (hk : ∀ b, ok b → ok' b) : s.At W ok' :=
  ⟨h.l.mono hk, fun y hy => ⟨(h.d y hy).1.mono hk, (h.d y hy).2⟩, h.cf.mono hk, h.sn.mono hk, h.k1, h.k2, h.k3⟩
theorem Sv.At.any (h : s.At W ok) : s.At W T := h.mono fun _ _ => trivial
theorem Sv.At.keep (h : s.At W ok) (hk : ∀ b, ok b → b < W.heap.size → W'.heap[b]? = W.heap[b]?) : s.At W' ok :=
  ⟨h.l.keep hk, fun y hy => ⟨(h.d y hy).1.keep hk, (h.d y hy).2⟩, h.cf.keep hk, h.sn.keep hk, h.k1, h.k2, h.k3⟩
theorem Sv.At.below (h : s.At W ok) (hb : Below W.heap.size W W') : s.At W' ok := h.keep fun b _ hl => hb.block b hl
theorem Sv.At.drew (h : s.At W ok) : s.At W.drew ok := h.keep fun _ _ _ => rfl
theorem Sv.At.dat (h : s.At W ok) : Dat W s.L := fun y hy => ⟨(h.d y hy).1.any, (h.d y hy).2⟩
theorem Sv.At.lt (h : s.At W ok) : s.At W fun b => ok b ∧ b < W.heap.size :=
  ⟨h.l.lt (by omega), fun y hy => ⟨(h.d y hy).1.lt (by omega), (h.d y hy).2⟩, h.cf.lt (by omega), h.sn.lt (by omega), h.k1, h.k2, h.k3⟩
theorem Sv.At.wel (h : s.At W ok) (hf : s.Fit) : Wel s.L := fun y hy => ⟨(hf.w y hy).1, (h.d y hy).1.blen.symm⟩
end
end Go.Proofs.YtlecglmiigdjlaaGreatDoor
namespace Go.Proofs.YtlecglmiigdjlaaGreatDoor
set_option linter.unusedVariables false
/-- A schedule: take: it yields the same in all worlds that meet S; one: it alone may come; two: one of two may come. -/
inductive Sch where
  | nil : Sch
  | take : Nat → Sch → Sch
  | one : Nat → Sch → Sch
  | two : Nat → Nat → Sch → Sch → Sch
def Sch.isNil : Sch → Bool
  | .nil => true
  | _ => false
section
variable {P : Program} {ops : Array Oper} {Q : Exit → Act → World → Prop} {md : Region.Mode} {S : World → Prop}
def schedB (md : Region.Mode) (ops : Array Oper) (n : Nat) : Nat → Sch → Array Bool → Bool
  | _, .nil, listed => (Region.ready md ops listed).isEmpty
  | 0, _, _ => false
  | f + 1, .take i s, listed => Region.free md ops listed i && (Region.ready md ops listed).contains i && decide (i < n) && (decide (ops.size ≤ n) || invB md ops n listed) && schedB md ops n f s (listed.setIfInBounds i true)
  | f + 1, .one i s, listed => decide (Region.ready md ops listed = [i]) && (decide (i ≠ n) || s.isNil) && schedB md ops n f s (listed.setIfInBounds i true)
  | f + 1, .two i j s s', listed => decide (Region.ready md ops listed = [i, j]) && decide (i ≠ n) && decide (j ≠ n) && schedB md ops n f s (listed.setIfInBounds i true) && schedB md ops n f s' (listed.setIfInBounds j true)
/-- The condition may be made stronger behind what acts. -/
def wpS (P : Program) (ops : Array Oper) (Q : Exit → Act → World → Prop) (n : Nat) : Sch → (World → Prop) → Act → World → Prop
  | .nil, S, a, w => Q .normal a w
  | .take i s, S, a, w => ∃ (oi : Oper) (v : Value), ops[i]? = some oi ∧ ((Region.wanted oi (yielded ops a.tmps) = true ∧ ∀ w, S w → (execOp a.eval oi).run P w = .ok (.value v) w) ∨ (Region.wanted oi (yielded ops a.tmps) = false ∧ v = undef)) ∧ wpS P ops Q n s S (a.put oi.dst v) w
  | .one i s, S, a, w => ∃ o : Oper, ops[i]? = some o ∧ if Region.wanted o (yielded ops a.tmps) = true then Oper.wp P o a w (fun a' w' => ∃ S' : World → Prop, (i ≠ n → (∀ W, S' W → S W) ∧ S' w') ∧ wpS P ops Q n s S' a' w') Q else wpS P ops Q n s S (a.put o.dst undef) w
  | .two i j s s', S, a, w => (∃ o : Oper, ops[i]? = some o ∧ if Region.wanted o (yielded ops a.tmps) = true then Oper.wp P o a w (fun a' w' => ∃ S' : World → Prop, ((∀ W, S' W → S W) ∧ S' w') ∧ wpS P ops Q n s S' a' w') Q else wpS P ops Q n s S (a.put o.dst undef) w) ∧
      (∃ o : Oper, ops[j]? = some o ∧ if Region.wanted o (yielded ops a.tmps) = true then Oper.wp P o a w (fun a' w' => ∃ S' : World → Prop, ((∀ W, S' W → S W) ∧ S' w') ∧ wpS P ops Q n s' S' a' w') Q else wpS P ops Q n s' S (a.put o.dst undef) w)
theorem wpAnyM_weak {n : Nat} {S S' : World → Prop} (h : ∀ W, S' W → S W) : ∀ (fuel : Nat) (listed : Array Bool) (a : Act) (w : World), wpAnyM P md ops Q S' n fuel listed a w → wpAnyM P md ops Q S n fuel listed a w
  | 0, _, _, _, h' => h'
  | fuel + 1, _, _, _, h' => ⟨h'.1, fun i hi => wpOp_mono (fun a' w' q => ⟨fun hn => h _ (q.1 hn), wpAnyM_weak h fuel _ a' w' q.2⟩) (h'.2 i hi)⟩
theorem put_shape (a : Act) (d : Option Tmp) (v : Value) : a.put d v = { a with tmps := (a.put d v).tmps } := by cases d <;> rfl
theorem wpAnyM_firstN {n i : Nat} {oi : Oper} {v : Value} (hi : ops[i]? = some oi) (hsel : ∀ (j : Nat) (o : Oper) cs b, ops[j]? = some o → o.op ≠ .select cs b)
    (hN : ops.size ≤ n)
    (hQ : ∀ c a w, Q (.panic c) (a.put oi.dst v) w → Q (.panic c) a w) (fuel : Nat) :
    ∀ (listed : Array Bool) (a : Act) (w : World),
      (∀ j oj, ops[j]? = some oj → j ≠ i → listed.getD j true = false → (∀ e ∈ oj.after, Region.binds md e = true → e.on ≠ i) → oi.apart ops oj = true) →
      i ∈ Region.ready md ops listed → YieldsIf P ops S oi v a → S w →
      wpAnyM P md ops Q S n fuel (listed.setIfInBounds i true) (a.put oi.dst v) w → wpAnyM P md ops Q S n (fuel + 1) listed a w := by
  induction fuel with
  | zero =>
    intro listed a w _ hr hy hS H
    refine ⟨fun h => (by rw [h] at hr; cases hr), fun j hj => ?_⟩
    by_cases hji : j = i
    · subst hji
      exact hy.wpOp hi hS ⟨fun _ => hS, H⟩
    · have := ready_mono hj hji
      rw [H.1] at this
      cases this
  | succ fuel ih =>
    intro listed a w hfree hr hy hS H
    refine ⟨fun h => (by rw [h] at hr; cases hr), fun j hj => ?_⟩
    by_cases hji : j = i
    · subst hji
      exact hy.wpOp hi hS ⟨fun _ => hS, H⟩
    · have h1 := H.2 j (ready_mono hj hji)
      obtain ⟨hjun, oj, hoj, hall⟩ := mem_ready.1 hj
      have hun := (mem_ready.1 hr).1
      have hjl := (Array.getElem?_eq_some_iff.1 hoj).1
      have hjn : j ≠ n := by omega
      have hno : ∀ e ∈ oj.after, Region.binds md e = true → e.on ≠ i := by
        intro e he hb h
        have h2 := hall e he hb
        rw [h, getD_both hun] at h2
        cases h2
      have h2 := wpOp_putIf hoj (hfree j oj hoj hji hjun hno) (fun cs b => hsel i oi cs b hi) (fun cs b => hsel j oj cs b hoj) hQ hy h1
      have hri : i ∈ Region.ready md ops (listed.setIfInBounds j true) := ready_mono hr (Ne.symm hji)
      refine wpOp_mono (fun a' w' h3 => ?_) h2
      obtain ⟨hy3, hS3, H3⟩ := h3
      have hfree' : ∀ k ok, ops[k]? = some ok → k ≠ i → (listed.setIfInBounds j true).getD k true = false → (∀ e ∈ ok.after, Region.binds md e = true → e.on ≠ i) → oi.apart ops ok = true := by
        intro k ok hk hki hku hkn
        refine hfree k ok hk hki ?_ hkn
        by_cases hjk : j = k
        · subst hjk
          exact hjun
        · rwa [getD_set_ne true hjk] at hku
      rw [Array.setIfInBounds_comm _ _ (Ne.symm hji)] at H3
      exact ⟨fun _ => hS3 hjn, ih _ a' w' hfree' hri hy3 (hS3 hjn) H3⟩
theorem wpAnyM_of_S {n : Nat} (hsel : Region.noSelect ops = true) (hk : (decide (ops.size ≤ n) || (Region.sinkB md ops n && decide (n + 1 = ops.size))) = true)
    (hQ : ∀ c (a : Act) (t : Array Value) w, Q (.panic c) { a with tmps := t } w → Q (.panic c) a w) : ∀ (fuel : Nat) (s : Sch) (S : World → Prop) (listed : Array Bool) (a : Act) (w : World), schedB md ops n fuel s listed = true → (s.isNil = false → S w) → wpS P ops Q n s S a w → wpAnyM P md ops Q S n fuel listed a w := by
  intro fuel
  induction fuel with
  | zero =>
    intro s S listed a w hb hS h
    cases s with
    | nil =>
      simp only [schedB, List.isEmpty_iff] at hb
      exact ⟨hb, h⟩
    | take => simp [schedB] at hb
    | one => simp [schedB] at hb
    | two => simp [schedB] at hb
  | succ fuel ih =>
    intro s S listed a w hb hS h
    cases s with
    | nil =>
      simp only [schedB, List.isEmpty_iff] at hb
      exact wpAnyM_done hb h _
    | take i s =>
      simp only [schedB, Bool.and_eq_true, decide_eq_true_eq] at hb
      obtain ⟨⟨⟨⟨hf, hr⟩, hin⟩, hinv⟩, hrest⟩ := hb
      obtain ⟨oi, v, hi, hy, hs⟩ := h
      have hS0 := hS rfl
      have hrec := ih s S (listed.setIfInBounds i true) (a.put oi.dst v) w hrest (fun _ => hS0) hs
      have hy' : YieldsIf P ops S oi v a := hy
      by_cases hN : ops.size ≤ n
      · exact wpAnyM_firstN hi (Region.noSelect_spec hsel) hN (fun c a w => by rw [put_shape]; exact hQ c a _ w) fuel listed a w (Region.free_spec hi hf) (by simpa using hr) hy' hS0 hrec
      · simp only [hN, decide_false, Bool.false_or, Bool.and_eq_true, decide_eq_true_eq] at hk hinv
        exact wpAnyM_first hi (Region.noSelect_spec hsel) hk.1 hk.2 hin (fun c a w => by rw [put_shape]; exact hQ c a _ w) fuel listed a w (inv_of hinv) (Region.free_spec hi hf) (by simpa using hr) hy' hS0 hrec
    | one i s =>
      simp only [schedB, Bool.and_eq_true, Bool.or_eq_true, decide_eq_true_eq] at hb
      obtain ⟨⟨hr, hlast⟩, hrest⟩ := hb
      obtain ⟨o, ho, h⟩ := h
      refine wpAnyM_one hr ho (fun K hK => ?_)
      split
      · rename_i hw
        rw [if_pos hw] at h
        refine Oper.wp_mono (fun a' w' h' => ?_) h
        obtain ⟨S', h1, h2⟩ := h'
        have hrec := ih s S' _ a' w' hrest (fun hn => ?_) h2
        · by_cases hin : i = n
          · rcases hlast with h3 | h3
            · exact absurd hin h3
            · refine hK a' w' (fun h => absurd hin h) ?_
              cases s with
              | nil =>
                cases fuel with
                | zero => simp only [schedB, List.isEmpty_iff] at hrest; exact ⟨hrest, h2⟩
                | succ f => simp only [schedB, List.isEmpty_iff] at hrest; exact wpAnyM_done hrest h2 _
              | take => cases h3
              | one => cases h3
              | two => cases h3
          · exact hK a' w' (fun hn => (h1 hn).1 _ (h1 hn).2) (wpAnyM_weak (h1 hin).1 _ _ _ _ hrec)
        · rcases hlast with h3 | h3
          · exact (h1 h3).2
          · rw [hn] at h3; cases h3
      · rename_i hw
        rw [if_neg hw] at h
        exact hK _ _ (fun _ => hS rfl) (ih s S _ _ _ hrest (fun _ => hS rfl) h)
    | two i j s s' =>
      simp only [schedB, Bool.and_eq_true, decide_eq_true_eq] at hb
      obtain ⟨⟨⟨⟨hr, hni⟩, hnj⟩, hrest⟩, hrest'⟩ := hb
      obtain ⟨⟨o, ho, h⟩, ⟨o', ho', h'⟩⟩ := h
      refine wpAnyM_two hr ho ho' (fun K hK => ?_) (fun K hK => ?_)
      · split
        · rename_i hw
          rw [if_pos hw] at h
          refine Oper.wp_mono (fun a' w' q => ?_) h
          obtain ⟨S', h1, h2⟩ := q
          exact hK a' w' (fun _ => h1.1 _ h1.2) (wpAnyM_weak h1.1 _ _ _ _ (ih s S' _ a' w' hrest (fun _ => h1.2) h2))
        · rename_i hw
          rw [if_neg hw] at h
          exact hK _ _ (fun _ => hS rfl) (ih s S _ _ _ hrest (fun _ => hS rfl) h)
      · split
        · rename_i hw
          rw [if_pos hw] at h'
          refine Oper.wp_mono (fun a' w' q => ?_) h'
          obtain ⟨S', h1, h2⟩ := q
          exact hK a' w' (fun _ => h1.1 _ h1.2) (wpAnyM_weak h1.1 _ _ _ _ (ih s' S' _ a' w' hrest' (fun _ => h1.2) h2))
        · rename_i hw
          rw [if_neg hw] at h'
          exact hK _ _ (fun _ => hS rfl) (ih s' S _ _ _ hrest' (fun _ => hS rfl) h')
theorem wp_region_S {id : Nat} {a : Act} {w : World} (n : Nat) (S : World → Prop) (s : Sch)
    (hb : (P.follows .mixedOrders && Region.noSelect ops && (decide (ops.size ≤ n) || (Region.sinkB .any ops n && decide (n + 1 = ops.size))) && schedB .any ops n ops.size s (Array.replicate ops.size false)) = true) (hS : S w.drew)
    (hQ : ∀ c (a : Act) (t : Array Value) w, Q (.panic c) { a with tmps := t } w → Q (.panic c) a w)
    (h : S w.drew → wpS P ops Q n s S a w.drew) : (Code.region id ops true).wp P Q a w := by
  simp only [Bool.and_eq_true] at hb
  exact wp_region_any hb.1.1.1 (wpAny_of_M _ _ _ _ (wpAnyM_of_S hb.1.1.2 hb.1.2 hQ _ _ _ _ _ _ hb.2 (fun _ => hS) (h hS)))
theorem wpS_take {n i : Nat} {d : Nat} {oi : Oper} {v : Value} {s : Sch} {a : Act} {w : World} (hi : ops[i]? = some oi) (hd : oi.dst = some d) (hw : Region.wanted oi (yielded ops a.tmps) = true)
    (hy : ∀ w, S w → (execOp a.eval oi).run P w = .ok (.value v) w) (h : wpS P ops Q n s S (a.put (some d) v) w) : wpS P ops Q n (.take i s) S a w :=
  ⟨oi, v, hi, .inl ⟨hw, hy⟩, by rw [hd]; exact h⟩
theorem wpS_skip {n i : Nat} {d : Nat} {oi : Oper} {s : Sch} {a : Act} {w : World} (hi : ops[i]? = some oi) (hd : oi.dst = some d) (hw : Region.wanted oi (yielded ops a.tmps) = false)
    (h : wpS P ops Q n s S (a.put (some d) undef) w) : wpS P ops Q n (.take i s) S a w :=
  ⟨oi, undef, hi, .inr ⟨hw, rfl⟩, by rw [hd]; exact h⟩
theorem wpS_pass {n i : Nat} {d : Nat} {oi : Oper} {s : Sch} {a : Act} {w : World} (hi : ops[i]? = some oi) (hd : oi.dst = some d) (hw : Region.wanted oi (yielded ops a.tmps) = false)
    (h : wpS P ops Q n s S (a.put (some d) undef) w) : wpS P ops Q n (.one i s) S a w :=
  ⟨oi, hi, by rw [hw, hd]; simpa using h⟩
/-- It acts: the walk behind it goes on under S'. -/
theorem wpS_one {n i : Nat} {o : Oper} {s : Sch} {a : Act} {w : World} (ho : ops[i]? = some o) (hw : Region.wanted o (yielded ops a.tmps) = true)
    (h : ∀ K : Act → World → Prop, (∀ (S' : World → Prop) a w, (∀ W, S' W → S W) → S' w → wpS P ops Q n s S' a w → K a w) → Oper.wp P o a w K Q) : wpS P ops Q n (.one i s) S a w := by
  refine ⟨o, ho, ?_⟩
  rw [if_pos hw]
  exact h _ (fun S' a w h1 h2 h3 => ⟨S', fun _ => ⟨h1, h2⟩, h3⟩)
/-- The last one. -/
theorem wpS_last {n : Nat} {o : Oper} {s : Sch} {a : Act} {w : World} (ho : ops[n]? = some o) (hw : Region.wanted o (yielded ops a.tmps) = true)
    (h : ∀ K : Act → World → Prop, (∀ a w, wpS P ops Q n s S a w → K a w) → Oper.wp P o a w K Q) : wpS P ops Q n (.one n s) S a w := by
  refine ⟨o, ho, ?_⟩
  rw [if_pos hw]
  exact h _ (fun a w h3 => ⟨S, fun hn => absurd rfl hn, h3⟩)
theorem wpS_two {n i j : Nat} {o o' : Oper} {s s' : Sch} {a : Act} {w : World} (ho : ops[i]? = some o) (ho' : ops[j]? = some o') (hw : Region.wanted o (yielded ops a.tmps) = true) (hw' : Region.wanted o' (yielded ops a.tmps) = true)
    (h : ∀ K : Act → World → Prop, (∀ (S' : World → Prop) a w, (∀ W, S' W → S W) → S' w → wpS P ops Q n s S' a w → K a w) → Oper.wp P o a w K Q)
    (h' : ∀ K : Act → World → Prop, (∀ (S' : World → Prop) a w, (∀ W, S' W → S W) → S' w → wpS P ops Q n s' S' a w → K a w) → Oper.wp P o' a w K Q) : wpS P ops Q n (.two i j s s') S a w := by
  refine ⟨⟨o, ho, ?_⟩, ⟨o', ho', ?_⟩⟩
  · rw [if_pos hw]
    exact h _ (fun S' a w h1 h2 h3 => ⟨S', ⟨h1, h2⟩, h3⟩)
  · rw [if_pos hw']
    exact h' _ (fun S' a w h1 h2 h3 => ⟨S', ⟨h1, h2⟩, h3⟩)
theorem wpS_nil {n : Nat} {a : Act} {w : World} (h : Q .normal a w) : wpS P ops Q n .nil S a w := h
end
end Go.Proofs.YtlecglmiigdjlaaGreatDoor
namespace Go.Proofs.YtlecglmiigdjlaaGreatDoor
open Go.RowKit
set_option maxRecDepth 100000
set_option linter.unusedVariables false
set_option linter.unusedSimpArgs false
theorem list_eq (a b : List UInt8) : (a == b) = decide (a = b) := by
  by_cases h : a = b
  · subst h; simp
  · rw [decide_eq_false h]
    simpa using h
theorem bytesEq_any (A : Option Addr) (n c : Nat) (B : Option Addr) (m d : Nat) (x y : List UInt8) (w : World) {ok ok' : Nat → Prop} (hr : Rd w ok 1 A n (bs x)) (hr' : Rd w ok' 1 B m (bs y)) :
    Calls Tryz.prog 66 #[.slice A n c, .slice B m d] w (fun e w' => e = .returned (.bool (decide (x = y))) ∧ w' = w) := by
  have cv1 := conv_bytes (P := Tryz.prog) (c := c) 33 9 5 Tryz.underlying33 Tryz.underlying5 Tryz.underlying9 hr
  have cv2 := conv_bytes (P := Tryz.prog) (c := d) 33 9 5 Tryz.underlying33 Tryz.underlying5 Tryz.underlying9 hr'
  have hs := list_eq x y
  have Hs := Lib.hid hs
  clear hs
  go_enter Tryz.func66, Tryz.ntmps66
  go_wp2_with fail
  go_ret
  exact ⟨ret_bool Hs.out, rfl⟩
theorem ii_inj {a b : List Int} (h : ii a = ii b) : a = b := by
  have := congrArg (List.map fun v => match v with | Value.int _ z => z | _ => 0) h
  simpa [ii, List.map_map, Function.comp_def] using this
set_option maxHeartbeats 1600000 in
theorem confEq_any (A : Option Addr) (n c : Nat) (B : Option Addr) (m d : Nat) (x y : List Int) (w : World) {ok ok' : Nat → Prop} (hr : Rd w ok 1 A n (ii x)) (hr' : Rd w ok' 1 B m (ii y)) (hn : n ≤ 1000000) (hm : m ≤ 1000000) :
    Calls Tryz.prog 65 #[.slice A n c, .slice B m d] w (BoolPost w (decide (x = y))) := by
  have hl := ii_len hr
  have hl' := ii_len hr'
  by_cases hnm : n = m
  · subst hnm
    have hne : ((n : Int) != (n : Int)) = false := by simp
    have Hl := Lib.hid (And.intro hl hl')
    clear hl hl'
    go_enter Tryz.func65, Tryz.ntmps65
    go_wp2_with fail
    go_loopg [5, 13] n (fun k s5 s13 wr => ∃ j : Nat, k = n - j ∧ j ≤ n ∧ s13 = .int .i64 j ∧ x.take j = y.take j ∧ Below w.heap.size w wr)
    case atStart => exact ⟨0, by omega, by omega, rfl, rfl, Below.refl _ _⟩
    case round =>
      obtain ⟨j, hk, hj, rfl, hq, hb⟩ := hrel
      have Hk := Lib.hid hk
      have Hq := Lib.hid hq
      have Hb := Lib.hid hb
      clear hk hq hb
      by_cases hlt : j < n
      · obtain ⟨b, o, a1, rfl, _, _, hx, hc⟩ := ii_cell (hr.below Hb.out) hlt
        obtain ⟨b', o', a2, rfl, _, _, hy, hc'⟩ := ii_cell (hr'.below Hb.out) hlt
        have hltI : (j : Int) < n := by omega
        have h0I : (0 : Int) ≤ j := by omega
        have Hxy := Lib.hid (And.intro hx hy)
        clear hx hy
        by_cases he : a1 = a2
        · subst he
          have hee : ((a1 : Int) != a1) = false := by simp
          have hq2 : x.take (j + 1) = y.take (j + 1) := by rw [List.take_add_one, List.take_add_one, Hxy.out.1, Hxy.out.2, Hq.out]
          have Hq2 := Lib.hid hq2
          clear hq2
          go_wp2_with fail
          go_region_law (fail)
          all_goals
            go_wp2_with fail
            go_roundg (n - (j + 1))
            case measure => have := Hk.out; omega
            case rel => exact ⟨j + 1, rfl, by omega, by go_num, Hq2.out, Hb.out.drew⟩
        · have hee : ((a1 : Int) != a2) = true := by simpa using he
          have hno : decide (x = y) = false := decide_eq_false fun e => he (by have h1 := Hxy.out.1; rw [e, Hxy.out.2] at h1; injection h1 with h1; exact h1.symm)
          have Hno := Lib.hid hno
          clear hno
          go_wp2_with fail
          go_region_law (fail)
          all_goals
            go_wp2_with fail
            go_ret
            exact ⟨ret_bool (by rw [Hno.out]), Hb.out.drew⟩
      · obtain rfl : j = n := by omega
        have hyes : decide (x = y) = true := decide_eq_true (by have := Hq.out; rwa [List.take_of_length_le (Nat.le_of_eq Hl.out.1), List.take_of_length_le (Nat.le_of_eq Hl.out.2)] at this)
        have Hyes := Lib.hid hyes
        clear hyes
        go_wp2_with fail
        go_ret
        exact ⟨ret_bool (by rw [Hyes.out]), Hb.out⟩
  · have hne : ((n : Int) != (m : Int)) = true := by simpa using (by omega : ¬ (n : Int) = m)
    have hno : decide (x = y) = false := decide_eq_false fun e => hnm (by rw [← hl, ← hl', e])
    rw [hno]
    clear hl hl' hno
    go_enter Tryz.func65, Tryz.ntmps65
    go_wp2_with fail
    go_ret
    exact ⟨rfl, Below.refl _ _⟩
end Go.Proofs.YtlecglmiigdjlaaGreatDoor
namespace Go.Proofs.YtlecglmiigdjlaaGreatDoor
open Go.RowKit
set_option maxRecDepth 100000
set_option linter.unusedVariables false
set_option linter.unusedSimpArgs false
theorem en_iff {x y : Er} : en x = en y ↔ x.a = y.a ∧ x.b = y.b ∧ x.c = y.c ∧ x.d = y.d := by
  unfold en
  constructor
  · intro h; injection h with h1 h2 h3 h4; exact ⟨h1, h2, h3, h4⟩
  · rintro ⟨h1, h2, h3, h4⟩; rw [h1, h2, h3, h4]
instance decEn (x y : En) : Decidable (x = y) :=
  if h : x.a = y.a ∧ x.b = y.b ∧ x.c = y.c ∧ x.d = y.d then .isTrue (by cases x; cases y; obtain ⟨h1, h2, h3, h4⟩ := h; dsimp only at *; rw [h1, h2, h3, h4]) else .isFalse (fun e => h (by rw [e]; exact ⟨rfl, rfl, rfl, rfl⟩))
set_option maxHeartbeats 1600000 in
theorem alike_any (x y : Er) (w : World) (hr : Rd w T 1 x.A x.n (bs x.d)) (hr' : Rd w T 1 y.A y.n (bs y.d)) :
    Calls Tryz.prog 64 #[.agg #[.int .i64 x.a, .int .i64 x.b, .int .i64 x.c, .slice x.A x.n x.m], .agg #[.int .i64 y.a, .int .i64 y.b, .int .i64 y.c, .slice y.A y.n y.m]] w (BoolPost w (decide (en x = en y))) := by
  obtain ⟨W0, hW0⟩ : ∃ W0, W0 = (w.alloc (.cells #[.int .i64 x.a, .int .i64 x.b, .int .i64 x.c, .slice x.A x.n x.m] 143)).alloc (.cells #[.int .i64 y.a, .int .i64 y.b, .int .i64 y.c, .slice y.A y.n y.m] 143) := ⟨_, rfl⟩
  have b0 : Bx W0 w.heap.size #[.int .i64 x.a, .int .i64 x.b, .int .i64 x.c, .slice x.A x.n x.m] := by subst hW0; exact (Bx.new _ _ _ rfl).alloc _
  have b1 : Bx W0 (w.heap.size + 1) #[.int .i64 y.a, .int .i64 y.b, .int .i64 y.c, .slice y.A y.n y.m] := by subst hW0; exact Bx.new _ _ _ (by simp)
  have hbe : Below w.heap.size w W0 := by subst hW0; exact ((Below.refl _ _).alloc (Nat.le_refl _) _).alloc (by simp) _
  have hbq := bytesEq_any x.A x.n x.m y.A y.n y.m x.d y.d W0 (hr.below hbe) (hr'.below hbe)
  obtain ⟨c0, c1, c2, c3, -⟩ := b0.c4
  obtain ⟨d0, d1, d2, d3, -⟩ := b1.c4
  have HW := Lib.hid hW0
  have Hbe := Lib.hid hbe
  have Hbq := Lib.hid hbq
  clear hW0 b0 b1 hbe hbq hr hr'
  have hno : ∀ p : Prop, (en x = en y → p) → ¬ p → decide (en x = en y) = false := fun p h h2 => decide_eq_false fun e => h2 (h e)
  by_cases e1 : x.a = y.a
  · by_cases e2 : x.b = y.b
    · by_cases e3 : x.c = y.c
      · have hyes : decide (x.d = y.d) = decide (en x = en y) := by
          by_cases h : x.d = y.d
          · rw [decide_eq_true h, decide_eq_true (en_iff.2 ⟨e1, e2, e3, h⟩)]
          · rw [decide_eq_false h, decide_eq_false (fun e => h (en_iff.1 e).2.2.2)]
        have q1 : (x.a == y.a) = true := by simpa using e1
        have q2 : (x.b == y.b) = true := by simpa using e2
        have q3 : (x.c == y.c) = true := by simpa using e3
        have Hy := Lib.hid hyes
        clear hyes hno e1 e2 e3
        go_enter Tryz.func64, Tryz.ntmps64
        go_upto_region 1 with (fail)
        rw [← HW.out]
        go_wp2_with fail
        refine Hbq.out.mono ?_
        rintro e w1 ⟨rfl, rfl⟩
        go_wp2_with fail
        go_ret
        exact ⟨ret_bool Hy.out, Hbe.out⟩
      · have q1 : (x.a == y.a) = true := by simpa using e1
        have q2 : (x.b == y.b) = true := by simpa using e2
        have q3 : (x.c == y.c) = false := by simpa using e3
        rw [hno _ (fun e => (en_iff.1 e).2.2.1) e3]
        clear hno e1 e2 e3
        go_enter Tryz.func64, Tryz.ntmps64
        go_upto_region 1 with (fail)
        rw [← HW.out]
        go_wp2_with fail
        go_ret
        exact ⟨rfl, Hbe.out⟩
    · have q1 : (x.a == y.a) = true := by simpa using e1
      have q2 : (x.b == y.b) = false := by simpa using e2
      rw [hno _ (fun e => (en_iff.1 e).2.1) e2]
      clear hno e1 e2
      go_enter Tryz.func64, Tryz.ntmps64
      go_upto_region 1 with (fail)
      rw [← HW.out]
      go_wp2_with fail
      go_ret
      exact ⟨rfl, Hbe.out⟩
  · have q1 : (x.a == y.a) = false := by simpa using e1
    rw [hno _ (fun e => (en_iff.1 e).1) e1]
    clear hno e1
    go_enter Tryz.func64, Tryz.ntmps64
    go_upto_region 1 with (fail)
    rw [← HW.out]
    go_wp2_with fail
    go_ret
    exact ⟨rfl, Hbe.out⟩
set_option maxHeartbeats 1600000 in
theorem eqFunc_any (A : Option Addr) (n c : Nat) (L : List Er) (B : Option Addr) (m d : Nat) (L' : List Er) (w : World) {ok ok' : Nat → Prop} (hr : Rd w ok 4 A n (flat ecell L)) (hr' : Rd w ok' 4 B m (flat ecell L')) (hd : ∀ x ∈ L, Rd w T 1 x.A x.n (bs x.d)) (hd' : ∀ x ∈ L', Rd w T 1 x.A x.n (bs x.d)) (hn : n ≤ 1000000) (hm : m ≤ 1000000) :
    Calls Tryz.prog 63 #[.slice A n c, .slice B m d, .func (.func 64) #[] #[]] w (BoolPost w (decide (L.map en = L'.map en))) := by
  have hl := hr.flen ecell_len (by omega)
  have hl' := hr'.flen ecell_len (by omega)
  by_cases hnm : n = m
  · subst hnm
    have hne : ((n : Int) != (n : Int)) = false := by simp
    have hal := fun x (hx : x ∈ L) y (hy : y ∈ L') W (hb : Below w.heap.size w W) => alike_any x y W ((hd x hx).below hb) ((hd' y hy).below hb)
    have Hal := Lib.hid hal
    have Hl := Lib.hid (And.intro hl hl')
    clear hl hl' hal hd hd'
    go_enter Tryz.func63, Tryz.ntmps63
    go_wp2_with fail
    go_loopg [7, 8, 9, 17] n (fun k s7 s8 s9 s17 wr => ∃ j : Nat, k = n - j ∧ j ≤ n ∧ s17 = .int .i64 j ∧ (L.map en).take j = (L'.map en).take j ∧ Below w.heap.size w wr)
    case atStart => exact ⟨0, by omega, by omega, rfl, rfl, Below.refl _ _⟩
    case round =>
      obtain ⟨j, hk, hj, rfl, hq, hb⟩ := hrel
      have Hk := Lib.hid hk
      have Hq := Lib.hid hq
      have Hb := Lib.hid hb
      clear hk hq hb
      by_cases hlt : j < n
      · obtain ⟨xb, xo, x, rfl, -, hxl, hx, x0, x1, x2, x3⟩ := er_cells (hr.below Hb.out) hlt
        obtain ⟨yb, yo, y, rfl, -, hyl, hy, y0, y1, y2, y3⟩ := er_cells (hr'.below Hb.out) hlt
        have hltI : (j : Int) < n := by omega
        have h0I : (0 : Int) ≤ j := by omega
        have ha := fun W (hb : Below w.heap.size w W) => Hal.out x (List.mem_of_getElem? hx) y (List.mem_of_getElem? hy) W hb
        have hbx : Below w.heap.size w ((wr.alloc (.cells #[.int .i64 x.a, .int .i64 x.b, .int .i64 x.c, .slice x.A x.n x.m] 143)).alloc (.cells #[.int .i64 y.a, .int .i64 y.b, .int .i64 y.c, .slice y.A y.n y.m] 143)) := (Hb.out.alloc Hb.out.size _).alloc (by have := Hb.out.size; simp; omega) _
        have ha0 := ha _ hbx
        have Hxy := Lib.hid (And.intro hx hy)
        have y0' : (wr.alloc (.cells #[.int .i64 x.a, .int .i64 x.b, .int .i64 x.c, .slice x.A x.n x.m] 143)).cell? ⟨yb, yo + j * 4, none⟩ = some (.int .i64 y.a) := (((Below.refl wr.heap.size wr).alloc (Nat.le_refl _) _).cell (p := ⟨yb, _, none⟩) hyl).trans y0
        have y1' : (wr.alloc (.cells #[.int .i64 x.a, .int .i64 x.b, .int .i64 x.c, .slice x.A x.n x.m] 143)).cell? ⟨yb, yo + j * 4 + 1, none⟩ = some (.int .i64 y.b) := (((Below.refl wr.heap.size wr).alloc (Nat.le_refl _) _).cell (p := ⟨yb, _, none⟩) hyl).trans y1
        have y2' : (wr.alloc (.cells #[.int .i64 x.a, .int .i64 x.b, .int .i64 x.c, .slice x.A x.n x.m] 143)).cell? ⟨yb, yo + j * 4 + 2, none⟩ = some (.int .i64 y.c) := (((Below.refl wr.heap.size wr).alloc (Nat.le_refl _) _).cell (p := ⟨yb, _, none⟩) hyl).trans y2
        have y3' : (wr.alloc (.cells #[.int .i64 x.a, .int .i64 x.b, .int .i64 x.c, .slice x.A x.n x.m] 143)).cell? ⟨yb, yo + j * 4 + 3, none⟩ = some (.slice y.A y.n y.m) := (((Below.refl wr.heap.size wr).alloc (Nat.le_refl _) _).cell (p := ⟨yb, _, none⟩) hyl).trans y3
        obtain ⟨q, hq⟩ : ∃ q, decide (en x = en y) = q := ⟨_, rfl⟩
        rw [hq] at ha0
        have Ha0 := Lib.hid (And.intro ha0 hbx)
        have Hq2 := Lib.hid hq
        clear hx hy ha ha0 hbx hq
        cases q
        · have hno : decide (L.map en = L'.map en) = false := decide_eq_false fun e => by
            have h1 : (L.map en)[j]? = (L'.map en)[j]? := by rw [e]
            rw [List.getElem?_map, List.getElem?_map, Hxy.out.1, Hxy.out.2] at h1
            exact (of_decide_eq_false Hq2.out) (by injection h1)
          have Hno := Lib.hid hno
          clear hno
          go_wp2_with fail
          refine Ha0.out.1.mono ?_
          rintro e w2 ⟨rfl, hb2⟩
          have hb3 := Ha0.out.2.trans (hb2.mono Ha0.out.2.size)
          have Hb3 := Lib.hid hb3
          clear hb2 hb3
          go_wp2_with fail
          go_ret
          exact ⟨ret_bool (by rw [Hno.out]), Hb3.out⟩
        · have hq2 : (L.map en).take (j + 1) = (L'.map en).take (j + 1) := by
            rw [List.take_add_one, List.take_add_one, List.getElem?_map, List.getElem?_map, Hxy.out.1, Hxy.out.2, Hq.out, Option.map_some, Option.map_some, of_decide_eq_true Hq2.out]
          have Hq3 := Lib.hid hq2
          clear hq2
          go_wp2_with fail
          refine Ha0.out.1.mono ?_
          rintro e w2 ⟨rfl, hb2⟩
          have hb3 := Ha0.out.2.trans (hb2.mono Ha0.out.2.size)
          have Hb3 := Lib.hid hb3
          clear hb2 hb3
          go_wp2_with fail
          go_roundg (n - (j + 1))
          case measure => have := Hk.out; omega
          case rel => exact ⟨j + 1, rfl, by omega, by go_num, Hq3.out, Hb3.out⟩
      · obtain rfl : j = n := by omega
        have hyes : decide (L.map en = L'.map en) = true := decide_eq_true (by have := Hq.out; rwa [List.take_of_length_le (by rw [List.length_map]; exact Nat.le_of_eq Hl.out.1), List.take_of_length_le (by rw [List.length_map]; exact Nat.le_of_eq Hl.out.2)] at this)
        have Hyes := Lib.hid hyes
        clear hyes
        go_wp2_with fail
        go_ret
        exact ⟨ret_bool (by rw [Hyes.out]), Hb.out⟩
  · have hne : ((n : Int) != (m : Int)) = true := by simpa using (by omega : ¬ (n : Int) = m)
    have hno : decide (L.map en = L'.map en) = false := decide_eq_false fun e => hnm (by have := congrArg List.length e; rw [List.length_map, List.length_map] at this; omega)
    rw [hno]
    clear hl hl' hno
    go_enter Tryz.func63, Tryz.ntmps63
    go_wp2_with fail
    go_ret
    exact ⟨rfl, Below.refl _ _⟩
end Go.Proofs.YtlecglmiigdjlaaGreatDoor
