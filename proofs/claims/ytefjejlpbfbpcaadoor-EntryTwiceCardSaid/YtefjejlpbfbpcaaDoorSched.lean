/- A region that draws its order, walked by one schedule: what only reads comes as soon as it can (under a condition S that holds behind every operation, but for a last one), what acts comes where it must. -/
import Derived.Test.YtefjejlpbfbpcaaDoorHeldM
namespace Go.Proofs.YtefjejlpbfbpcaaDoor
set_option linter.unusedVariables false
/-- A schedule: take: it yields the same in all worlds that meet S; one: it alone may come; two: one of two may come. -/
inductive Sch where
  | nil : Sch
  | take : Nat → Sch → Sch
  | one : Nat → Sch → Sch
  | two : Nat → Nat → Sch → Sch → Sch
def Sch.isNil : Sch → Bool
  | .nil => true
  | _ => false
section
variable {P : Program} {ops : Array Oper} {Q : Exit → Act → World → Prop} {md : Region.Mode} {S : World → Prop}
def schedB (md : Region.Mode) (ops : Array Oper) (n : Nat) : Nat → Sch → Array Bool → Bool
  | _, .nil, listed => (Region.ready md ops listed).isEmpty
  | 0, _, _ => false
  | f + 1, .take i s, listed => Region.free md ops listed i && (Region.ready md ops listed).contains i && decide (i < n) && (decide (ops.size ≤ n) || invB md ops n listed) && schedB md ops n f s (listed.setIfInBounds i true)
  | f + 1, .one i s, listed => decide (Region.ready md ops listed = [i]) && (decide (i ≠ n) || s.isNil) && schedB md ops n f s (listed.setIfInBounds i true)
  | f + 1, .two i j s s', listed => decide (Region.ready md ops listed = [i, j]) && decide (i ≠ n) && decide (j ≠ n) && schedB md ops n f s (listed.setIfInBounds i true) && schedB md ops n f s' (listed.setIfInBounds j true)
/-- The condition may be made stronger behind what acts. -/
def wpS (P : Program) (ops : Array Oper) (Q : Exit → Act → World → Prop) (n : Nat) : Sch → (World → Prop) → Act → World → Prop
  | .nil, S, a, w => Q .normal a w
  | .take i s, S, a, w => ∃ (oi : Oper) (v : Value), ops[i]? = some oi ∧ ((Region.wanted oi (yielded ops a.tmps) = true ∧ ∀ w, S w → (execOp a.eval oi).run P w = .ok (.value v) w) ∨ (Region.wanted oi (yielded ops a.tmps) = false ∧ v = undef)) ∧ wpS P ops Q n s S (a.put oi.dst v) w
  | .one i s, S, a, w => ∃ o : Oper, ops[i]? = some o ∧ if Region.wanted o (yielded ops a.tmps) = true then Oper.wp P o a w (fun a' w' => ∃ S' : World → Prop, (i ≠ n → (∀ W, S' W → S W) ∧ S' w') ∧ wpS P ops Q n s S' a' w') Q else wpS P ops Q n s S (a.put o.dst undef) w
  | .two i j s s', S, a, w => (∃ o : Oper, ops[i]? = some o ∧ if Region.wanted o (yielded ops a.tmps) = true then Oper.wp P o a w (fun a' w' => ∃ S' : World → Prop, ((∀ W, S' W → S W) ∧ S' w') ∧ wpS P ops Q n s S' a' w') Q else wpS P ops Q n s S (a.put o.dst undef) w) ∧
      (∃ o : Oper, ops[j]? = some o ∧ if Region.wanted o (yielded ops a.tmps) = true then Oper.wp P o a w (fun a' w' => ∃ S' : World → Prop, ((∀ W, S' W → S W) ∧ S' w') ∧ wpS P ops Q n s' S' a' w') Q else wpS P ops Q n s' S (a.put o.dst undef) w)
theorem wpAnyM_weak {n : Nat} {S S' : World → Prop} (h : ∀ W, S' W → S W) : ∀ (fuel : Nat) (listed : Array Bool) (a : Act) (w : World), wpAnyM P md ops Q S' n fuel listed a w → wpAnyM P md ops Q S n fuel listed a w
  | 0, _, _, _, h' => h'
  | fuel + 1, _, _, _, h' => ⟨h'.1, fun i hi => wpOp_mono (fun a' w' q => ⟨fun hn => h _ (q.1 hn), wpAnyM_weak h fuel _ a' w' q.2⟩) (h'.2 i hi)⟩
theorem put_shape (a : Act) (d : Option Tmp) (v : Value) : a.put d v = { a with tmps := (a.put d v).tmps } := by cases d <;> rfl
theorem wpAnyM_firstN {n i : Nat} {oi : Oper} {v : Value} (hi : ops[i]? = some oi) (hsel : ∀ (j : Nat) (o : Oper) cs b, ops[j]? = some o → o.op ≠ .select cs b)
    (hN : ops.size ≤ n)
    (hQ : ∀ c a w, Q (.panic c) (a.put oi.dst v) w → Q (.panic c) a w) (fuel : Nat) :
    ∀ (listed : Array Bool) (a : Act) (w : World),
      (∀ j oj, ops[j]? = some oj → j ≠ i → listed.getD j true = false → (∀ e ∈ oj.after, Region.binds md e = true → e.on ≠ i) → oi.apart ops oj = true) →
      i ∈ Region.ready md ops listed → YieldsIf P ops S oi v a → S w →
      wpAnyM P md ops Q S n fuel (listed.setIfInBounds i true) (a.put oi.dst v) w → wpAnyM P md ops Q S n (fuel + 1) listed a w := by
  induction fuel with
  | zero =>
    intro listed a w _ hr hy hS H
    refine ⟨fun h => (by rw [h] at hr; cases hr), fun j hj => ?_⟩
    by_cases hji : j = i
    · subst hji
      exact hy.wpOp hi hS ⟨fun _ => hS, H⟩
    · have := ready_mono hj hji
      rw [H.1] at this
      cases this
  | succ fuel ih =>
    intro listed a w hfree hr hy hS H
    refine ⟨fun h => (by rw [h] at hr; cases hr), fun j hj => ?_⟩
    by_cases hji : j = i
    · subst hji
      exact hy.wpOp hi hS ⟨fun _ => hS, H⟩
    · have h1 := H.2 j (ready_mono hj hji)
      obtain ⟨hjun, oj, hoj, hall⟩ := mem_ready.1 hj
      have hun := (mem_ready.1 hr).1
      have hjl := (Array.getElem?_eq_some_iff.1 hoj).1
      have hjn : j ≠ n := by omega
      have hno : ∀ e ∈ oj.after, Region.binds md e = true → e.on ≠ i := by
        intro e he hb h
        have h2 := hall e he hb
        rw [h, getD_both hun] at h2
        cases h2
      have h2 := wpOp_putIf hoj (hfree j oj hoj hji hjun hno) (fun cs b => hsel i oi cs b hi) (fun cs b => hsel j oj cs b hoj) hQ hy h1
      have hri : i ∈ Region.ready md ops (listed.setIfInBounds j true) := ready_mono hr (Ne.symm hji)
      refine wpOp_mono (fun a' w' h3 => ?_) h2
      obtain ⟨hy3, hS3, H3⟩ := h3
      have hfree' : ∀ k ok, ops[k]? = some ok → k ≠ i → (listed.setIfInBounds j true).getD k true = false → (∀ e ∈ ok.after, Region.binds md e = true → e.on ≠ i) → oi.apart ops ok = true := by
        intro k ok hk hki hku hkn
        refine hfree k ok hk hki ?_ hkn
        by_cases hjk : j = k
        · subst hjk
          exact hjun
        · rwa [getD_set_ne true hjk] at hku
      rw [Array.setIfInBounds_comm _ _ (Ne.symm hji)] at H3
      exact ⟨fun _ => hS3 hjn, ih _ a' w' hfree' hri hy3 (hS3 hjn) H3⟩
theorem wpAnyM_of_S {n : Nat} (hsel : Region.noSelect ops = true) (hk : (decide (ops.size ≤ n) || (Region.sinkB md ops n && decide (n + 1 = ops.size))) = true)
    (hQ : ∀ c (a : Act) (t : Array Value) w, Q (.panic c) { a with tmps := t } w → Q (.panic c) a w) : ∀ (fuel : Nat) (s : Sch) (S : World → Prop) (listed : Array Bool) (a : Act) (w : World), schedB md ops n fuel s listed = true → (s.isNil = false → S w) → wpS P ops Q n s S a w → wpAnyM P md ops Q S n fuel listed a w := by
  intro fuel
  induction fuel with
  | zero =>
    intro s S listed a w hb hS h
    cases s with
    | nil =>
      simp only [schedB, List.isEmpty_iff] at hb
      exact ⟨hb, h⟩
    | take => simp [schedB] at hb
    | one => simp [schedB] at hb
    | two => simp [schedB] at hb
  | succ fuel ih =>
    intro s S listed a w hb hS h
    cases s with
    | nil =>
      simp only [schedB, List.isEmpty_iff] at hb
      exact wpAnyM_done hb h _
    | take i s =>
      simp only [schedB, Bool.and_eq_true, decide_eq_true_eq] at hb
      obtain ⟨⟨⟨⟨hf, hr⟩, hin⟩, hinv⟩, hrest⟩ := hb
      obtain ⟨oi, v, hi, hy, hs⟩ := h
      have hS0 := hS rfl
      have hrec := ih s S (listed.setIfInBounds i true) (a.put oi.dst v) w hrest (fun _ => hS0) hs
      have hy' : YieldsIf P ops S oi v a := hy
      by_cases hN : ops.size ≤ n
      · exact wpAnyM_firstN hi (Region.noSelect_spec hsel) hN (fun c a w => by rw [put_shape]; exact hQ c a _ w) fuel listed a w (Region.free_spec hi hf) (by simpa using hr) hy' hS0 hrec
      · simp only [hN, decide_false, Bool.false_or, Bool.and_eq_true, decide_eq_true_eq] at hk hinv
        exact wpAnyM_first hi (Region.noSelect_spec hsel) hk.1 hk.2 hin (fun c a w => by rw [put_shape]; exact hQ c a _ w) fuel listed a w (inv_of hinv) (Region.free_spec hi hf) (by simpa using hr) hy' hS0 hrec
    | one i s =>
      simp only [schedB, Bool.and_eq_true, Bool.or_eq_true, decide_eq_true_eq] at hb
      obtain ⟨⟨hr, hlast⟩, hrest⟩ := hb
      obtain ⟨o, ho, h⟩ := h
      refine wpAnyM_one hr ho (fun K hK => ?_)
      split
      · rename_i hw
        rw [if_pos hw] at h
        refine Oper.wp_mono (fun a' w' h' => ?_) h
        obtain ⟨S', h1, h2⟩ := h'
        have hrec := ih s S' _ a' w' hrest (fun hn => ?_) h2
        · by_cases hin : i = n
          · rcases hlast with h3 | h3
            · exact absurd hin h3
            · refine hK a' w' (fun h => absurd hin h) ?_
              cases s with
              | nil =>
                cases fuel with
                | zero => simp only [schedB, List.isEmpty_iff] at hrest; exact ⟨hrest, h2⟩
                | succ f => simp only [schedB, List.isEmpty_iff] at hrest; exact wpAnyM_done hrest h2 _
              | take => cases h3
              | one => cases h3
              | two => cases h3
          · exact hK a' w' (fun hn => (h1 hn).1 _ (h1 hn).2) (wpAnyM_weak (h1 hin).1 _ _ _ _ hrec)
        · rcases hlast with h3 | h3
          · exact (h1 h3).2
          · rw [hn] at h3; cases h3
      · rename_i hw
        rw [if_neg hw] at h
        exact hK _ _ (fun _ => hS rfl) (ih s S _ _ _ hrest (fun _ => hS rfl) h)
    | two i j s s' =>
      simp only [schedB, Bool.and_eq_true, decide_eq_true_eq] at hb
      obtain ⟨⟨⟨⟨hr, hni⟩, hnj⟩, hrest⟩, hrest'⟩ := hb
      obtain ⟨⟨o, ho, h⟩, ⟨o', ho', h'⟩⟩ := h
      refine wpAnyM_two hr ho ho' (fun K hK => ?_) (fun K hK => ?_)
      · split
        · rename_i hw
          rw [if_pos hw] at h
          refine Oper.wp_mono (fun a' w' q => ?_) h
          obtain ⟨S', h1, h2⟩ := q
          exact hK a' w' (fun _ => h1.1 _ h1.2) (wpAnyM_weak h1.1 _ _ _ _ (ih s S' _ a' w' hrest (fun _ => h1.2) h2))
        · rename_i hw
          rw [if_neg hw] at h
          exact hK _ _ (fun _ => hS rfl) (ih s S _ _ _ hrest (fun _ => hS rfl) h)
      · split
        · rename_i hw
          rw [if_pos hw] at h'
          refine Oper.wp_mono (fun a' w' q => ?_) h'
          obtain ⟨S', h1, h2⟩ := q
          exact hK a' w' (fun _ => h1.1 _ h1.2) (wpAnyM_weak h1.1 _ _ _ _ (ih s' S' _ a' w' hrest' (fun _ => h1.2) h2))
        · rename_i hw
          rw [if_neg hw] at h'
          exact hK _ _ (fun _ => hS rfl) (ih s' S _ _ _ hrest' (fun _ => hS rfl) h')
theorem wp_region_S {id : Nat} {a : Act} {w : World} (n : Nat) (S : World → Prop) (s : Sch)
    (hb : (P.follows .mixedOrders && Region.noSelect ops && (decide (ops.size ≤ n) || (Region.sinkB .any ops n && decide (n + 1 = ops.size))) && schedB .any ops n ops.size s (Array.replicate ops.size false)) = true) (hS : S w.drew)
    (hQ : ∀ c (a : Act) (t : Array Value) w, Q (.panic c) { a with tmps := t } w → Q (.panic c) a w)
    (h : S w.drew → wpS P ops Q n s S a w.drew) : (Code.region id ops true).wp P Q a w := by
  simp only [Bool.and_eq_true] at hb
  exact wp_region_any hb.1.1.1 (wpAny_of_M _ _ _ _ (wpAnyM_of_S hb.1.1.2 hb.1.2 hQ _ _ _ _ _ _ hb.2 (fun _ => hS) (h hS)))
theorem wpS_take {n i : Nat} {d : Nat} {oi : Oper} {v : Value} {s : Sch} {a : Act} {w : World} (hi : ops[i]? = some oi) (hd : oi.dst = some d) (hw : Region.wanted oi (yielded ops a.tmps) = true)
    (hy : ∀ w, S w → (execOp a.eval oi).run P w = .ok (.value v) w) (h : wpS P ops Q n s S (a.put (some d) v) w) : wpS P ops Q n (.take i s) S a w :=
  ⟨oi, v, hi, .inl ⟨hw, hy⟩, by rw [hd]; exact h⟩
theorem wpS_skip {n i : Nat} {d : Nat} {oi : Oper} {s : Sch} {a : Act} {w : World} (hi : ops[i]? = some oi) (hd : oi.dst = some d) (hw : Region.wanted oi (yielded ops a.tmps) = false)
    (h : wpS P ops Q n s S (a.put (some d) undef) w) : wpS P ops Q n (.take i s) S a w :=
  ⟨oi, undef, hi, .inr ⟨hw, rfl⟩, by rw [hd]; exact h⟩
theorem wpS_pass {n i : Nat} {d : Nat} {oi : Oper} {s : Sch} {a : Act} {w : World} (hi : ops[i]? = some oi) (hd : oi.dst = some d) (hw : Region.wanted oi (yielded ops a.tmps) = false)
    (h : wpS P ops Q n s S (a.put (some d) undef) w) : wpS P ops Q n (.one i s) S a w :=
  ⟨oi, hi, by rw [hw, hd]; simpa using h⟩
/-- It acts: the walk behind it goes on under S'. -/
theorem wpS_one {n i : Nat} {o : Oper} {s : Sch} {a : Act} {w : World} (ho : ops[i]? = some o) (hw : Region.wanted o (yielded ops a.tmps) = true)
    (h : ∀ K : Act → World → Prop, (∀ (S' : World → Prop) a w, (∀ W, S' W → S W) → S' w → wpS P ops Q n s S' a w → K a w) → Oper.wp P o a w K Q) : wpS P ops Q n (.one i s) S a w := by
  refine ⟨o, ho, ?_⟩
  rw [if_pos hw]
  exact h _ (fun S' a w h1 h2 h3 => ⟨S', fun _ => ⟨h1, h2⟩, h3⟩)
/-- The last one. -/
theorem wpS_last {n : Nat} {o : Oper} {s : Sch} {a : Act} {w : World} (ho : ops[n]? = some o) (hw : Region.wanted o (yielded ops a.tmps) = true)
    (h : ∀ K : Act → World → Prop, (∀ a w, wpS P ops Q n s S a w → K a w) → Oper.wp P o a w K Q) : wpS P ops Q n (.one n s) S a w := by
  refine ⟨o, ho, ?_⟩
  rw [if_pos hw]
  exact h _ (fun a w h3 => ⟨S, fun hn => absurd rfl hn, h3⟩)
theorem wpS_two {n i j : Nat} {o o' : Oper} {s s' : Sch} {a : Act} {w : World} (ho : ops[i]? = some o) (ho' : ops[j]? = some o') (hw : Region.wanted o (yielded ops a.tmps) = true) (hw' : Region.wanted o' (yielded ops a.tmps) = true)
    (h : ∀ K : Act → World → Prop, (∀ (S' : World → Prop) a w, (∀ W, S' W → S W) → S' w → wpS P ops Q n s S' a w → K a w) → Oper.wp P o a w K Q)
    (h' : ∀ K : Act → World → Prop, (∀ (S' : World → Prop) a w, (∀ W, S' W → S W) → S' w → wpS P ops Q n s' S' a w → K a w) → Oper.wp P o' a w K Q) : wpS P ops Q n (.two i j s s') S a w := by
  refine ⟨⟨o, ho, ?_⟩, ⟨o', ho', ?_⟩⟩
  · rw [if_pos hw]
    exact h _ (fun S' a w h1 h2 h3 => ⟨S', ⟨h1, h2⟩, h3⟩)
  · rw [if_pos hw']
    exact h' _ (fun S' a w h1 h2 h3 => ⟨S', ⟨h1, h2⟩, h3⟩)
theorem wpS_nil {n : Nat} {a : Act} {w : World} (h : Q .normal a w) : wpS P ops Q n .nil S a w := h
end
end Go.Proofs.YtefjejlpbfbpcaaDoor
