/- A region that draws its order, whose first n operations only read, and whose others each wait for one of the others: the first ones can be gone through in the text's order; what is behind them is walked as any region is. -/
import Derived.Test.YtefjejlpbfbpcaaDoorBase
import Derived.StillTailTactics
namespace Go.Proofs.YtefjejlpbfbpcaaDoor
set_option linter.unusedVariables false
section
variable {P : Program} {ops : Array Oper} {md : Region.Mode} {w : World}
/-- Each operation behind the n-th waits for one from the n-th on. -/
def hangsB (md : Region.Mode) (ops : Array Oper) (n : Nat) : Bool := (List.range ops.size).all fun t => decide (t ≤ n) || (List.range t).any fun u => decide (n ≤ u) && Region.waitsFor md ops t u
theorem late_n {n : Nat} {listed : Array Bool} (hs : Region.sinkB md ops n = true) (hn : n < ops.size) (inv : HeadInv md ops n listed) :
    ∀ (d i : Nat), n - i = d → i < n → listed.getD i true = false → n ∉ Region.ready md ops listed := by
  intro d
  induction d using Nat.strongRecOn with
  | _ d ih =>
    intro i hd hi hun hr
    obtain ⟨_, on, hon, hall⟩ := mem_ready.1 hr
    obtain ⟨j, hj, hj2⟩ := List.any_eq_true.1 (List.all_eq_true.1 hs i (List.mem_range.2 hi))
    simp only [Bool.and_eq_true, decide_eq_true_eq] at hj2
    obtain ⟨oj, hoj, e, he, hb, hei⟩ := Region.waitsFor_spec hj2.2
    have hjn : j ≤ n := by have := List.mem_range.1 hj; omega
    have hil : listed.getD i false = false := getD_both hun
    by_cases hjt : j = n
    · subst hjt
      obtain rfl : oj = on := Option.some.inj (hoj.symm.trans hon)
      have := hall e he hb
      rw [hei, hil] at this
      cases this
    · by_cases hl : listed.getD j false = true
      · have := inv.closed j oj hoj hl e he hb
        rw [hei, hil] at this
        cases this
      · have hjs : j < listed.size := by rw [inv.size]; omega
        exact ih (n - j) (by omega) j rfl (by omega) (getD_in hjs (by simpa using hl)) hr
theorem late {n : Nat} {listed : Array Bool} (hs : Region.sinkB md ops n = true) (hc : hangsB md ops n = true) (hn : n < ops.size) (inv : HeadInv md ops n listed) {i : Nat} (hi : i < n) (hun : listed.getD i true = false) :
    ∀ t ∈ Region.ready md ops listed, t < n := by
  intro t hr
  rcases Nat.lt_trichotomy t n with h | h | h
  · exact h
  · subst h
    exact absurd hr (late_n hs hn inv _ i rfl hi hun)
  · exfalso
    obtain ⟨_, ot, hot, hall⟩ := mem_ready.1 hr
    have htl : t < ops.size := (Array.getElem?_eq_some_iff.1 hot).1
    have h1 := List.all_eq_true.1 hc t (List.mem_range.2 htl)
    simp only [Bool.or_eq_true, decide_eq_true_eq] at h1
    rcases h1 with h1 | h1
    · omega
    · obtain ⟨u, hu, h2⟩ := List.any_eq_true.1 h1
      simp only [Bool.and_eq_true, decide_eq_true_eq] at h2
      obtain ⟨o', ho', e, he, hb, heu⟩ := Region.waitsFor_spec h2.2
      obtain rfl : o' = ot := Option.some.inj (ho'.symm.trans hot)
      have hut := List.mem_range.1 hu
      have h3 := hall e he hb
      rw [heu, getD_both (inv.tail u h2.1 (by omega))] at h3
      cases h3
/-- One that only reads and may come now may come first. -/
theorem head_first {n i : Nat} {oi : Oper} {v : Value} {L : Array Bool → Act → Prop} (hi : ops[i]? = some oi) (hsel : ∀ (j : Nat) (o : Oper) cs b, ops[j]? = some o → o.op ≠ .select cs b)
    (hs : Region.sinkB md ops n = true) (hc : hangsB md ops n = true) (hn : n < ops.size) (hin : i < n) (hdone : ∀ listed a, L listed a → ∀ j ∈ Region.ready md ops listed, n ≤ j) :
    ∀ (f : Nat) (listed : Array Bool) (a : Act), HeadInv md ops n listed →
      (∀ j oj, ops[j]? = some oj → j ≠ i → listed.getD j true = false → (∀ e ∈ oj.after, Region.binds md e = true → e.on ≠ i) → oi.apart ops oj = true) →
      i ∈ Region.ready md ops listed → YieldsAt P ops w oi v a →
      wpAnyL P md ops w n L f (listed.setIfInBounds i true) (a.put oi.dst v) → wpAnyL P md ops w n L (f + 1) listed a := by
  intro f
  induction f with
  | zero =>
    intro listed a inv _ hr hy H
    have hlt := late hs hc hn inv hin (mem_ready.1 hr).1
    refine ⟨fun h => (by rw [h] at hr; cases hr), fun j hj => ⟨hlt j hj, ?_⟩⟩
    by_cases hji : j = i
    · subst hji
      exact hy.stOp hi H
    · have h1 := hdone _ _ H j (ready_mono hj hji)
      have h2 := hlt j hj
      omega
  | succ f ih =>
    intro listed a inv hap hr hy H
    have hun := (mem_ready.1 hr).1
    have hlt := late hs hc hn inv hin hun
    refine ⟨fun h => (by rw [h] at hr; cases hr), fun j hj => ⟨hlt j hj, ?_⟩⟩
    by_cases hji : j = i
    · subst hji
      exact hy.stOp hi H
    · obtain ⟨hjun, oj, hoj, hall⟩ := mem_ready.1 hj
      have hno : ∀ e ∈ oj.after, Region.binds md e = true → e.on ≠ i := by
        intro e he hb h
        have h1 := hall e he hb
        rw [h, getD_both hun] at h1
        cases h1
      have h2 := stOp_put hoj (hap j oj hoj hji hjun hno) (fun cs b => hsel i oi cs b hi) (fun cs b => hsel j oj cs b hoj) hy (H.2 j (ready_mono hj hji)).2
      refine stOp_mono (fun a' h3 => ih (listed.setIfInBounds j true) a' (inv.set hj (hlt j hj)) (fun k ok hk hki hku hkn => hap k ok hk hki ?_ hkn) (ready_mono hr (Ne.symm hji)) h3.1 ?_) h2
      · by_cases hjk : j = k
        · subst hjk
          exact hjun
        · rwa [getD_set_ne true hjk] at hku
      · rw [Array.setIfInBounds_comm _ _ hji]
        exact h3.2
/-- The flags when k .. k + f - 1 have come. -/
def flags : Nat → Nat → Array Bool → Array Bool
  | 0, _, listed => listed
  | f + 1, k, listed => flags f (k + 1) (listed.setIfInBounds k true)
def goodHead (md : Region.Mode) (ops : Array Oper) (n : Nat) : Nat → Nat → Array Bool → Bool
  | 0, _, listed => (Region.ready md ops listed).all fun j => decide (n ≤ j)
  | f + 1, k, listed => (Region.ready md ops listed).contains k && Region.free md ops listed k && goodHead md ops n f (k + 1) (listed.setIfInBounds k true)
theorem head_lex {n : Nat} {Lq : Act → Prop} (hsel : Region.noSelect ops = true) (hs : Region.sinkB md ops n = true) (hc : hangsB md ops n = true) (hn : n < ops.size) (F : Array Bool) (hF : ∀ j ∈ Region.ready md ops F, n ≤ j) :
    ∀ (l : List Oper) (k : Nat) (listed : Array Bool) (a : Act), (∀ j, j < l.length → l[j]? = ops[k + j]?) → k + l.length = n → HeadInv md ops n listed → flags l.length k listed = F →
    goodHead md ops n l.length k listed = true → wpStill P ops w Lq l a → wpAnyL P md ops w n (fun listed' a' => listed' = F ∧ Lq a') l.length listed a
  | [], k, listed, a, _, hk, _, hf, hB, h => ⟨hf, h⟩
  | o :: l, k, listed, a, hl, hk, inv, hf, hB, h => by
    have h0 : ops[k]? = some o := by simpa using (hl 0 (by simp)).symm
    simp only [List.length_cons, goodHead, Bool.and_eq_true] at hB
    obtain ⟨⟨hr, hfr⟩, hB'⟩ := hB
    have hkn : k < n := by simp only [List.length_cons] at hk; omega
    have hr' : k ∈ Region.ready md ops listed := by simpa using hr
    obtain ⟨v, hy, hK⟩ := yieldsAt_of_stOp h0 (show stOp P ops w k (wpStill P ops w Lq l) a by unfold stOp; simp only [h0]; exact h)
    exact head_first h0 (Region.noSelect_spec hsel) hs hc hn hkn (fun listed' a' hL => by rw [hL.1]; exact hF) l.length listed a inv (Region.free_spec h0 hfr) hr' hy
      (head_lex hsel hs hc hn F hF l (k + 1) _ _ (fun j hj => by have := hl (j + 1) (by simp; omega); simpa [Nat.add_assoc, Nat.add_comm 1 j] using this) (by simp only [List.length_cons] at hk; omega) (inv.set hr' hkn) hf hB' hK)
def readsThenB (md : Region.Mode) (ops : Array Oper) (n : Nat) : Bool :=
  Region.noSelect ops && decide (n < ops.size) && Region.sinkB md ops n && hangsB md ops n && goodHead md ops n n 0 (Array.replicate ops.size false)
theorem goodHead_end {n : Nat} : ∀ (f k : Nat) (listed : Array Bool), goodHead md ops n f k listed = true → ∀ j ∈ Region.ready md ops (flags f k listed), n ≤ j
  | 0, k, listed, h, j, hj => by simpa using List.all_eq_true.1 h j hj
  | f + 1, k, listed, h, j, hj => by
    simp only [goodHead, Bool.and_eq_true] at h
    exact goodHead_end f (k + 1) _ h.2 j hj
theorem wp_region_reads_then {id : Nat} {Q : Exit → Act → World → Prop} {a : Act} {w : World} {l : List Oper} (n : Nat) (hm : P.follows .mixedOrders = true) (hB : readsThenB .any l.toArray n = true)
    (h : wpStill P l.toArray w.drew (fun a' => wpAny P .any l.toArray Q (l.length - n) (flags n 0 (Array.replicate l.length false)) a' w.drew) (l.take n) a) : (Code.region id l.toArray true).wp P Q a w := by
  simp only [readsThenB, Bool.and_eq_true, decide_eq_true_eq] at hB
  obtain ⟨⟨⟨⟨hsel, hn⟩, hs⟩, hc⟩, hg⟩ := hB
  have hn' : n < l.length := by simpa using hn
  have htl : (l.take n).length = n := by simp; omega
  have inv0 : HeadInv .any l.toArray n (Array.replicate l.toArray.size false) :=
    ⟨by simp, fun j oj _ hl => (by rw [getD_replicate_false] at hl; cases hl), fun t _ ht => getD_in (by simpa using ht) (getD_replicate_false _ _)⟩
  have H := head_lex (w := w.drew) (md := .any) hsel hs hc hn _ (goodHead_end n 0 _ hg) (l.take n) 0 _ a (fun j hj => by
    have hj' : j < n := by rw [htl] at hj; exact hj
    simp [hj']) (by simpa using htl) inv0 (by rw [htl]) (by rw [htl]; exact hg) h
  refine wp_region_any hm ?_
  have := wpAny_of_head (Q' := Q) (g := l.length - n) (fun listed a' hL => by
    rw [hL.1]
    have := hL.2
    simpa using this) _ _ _ H
  rw [htl, show n + (l.length - n) = l.length by omega] at this
  simpa using this
end
end Go.Proofs.YtefjejlpbfbpcaaDoor
