/- A region that draws its order, some of whose operations load what its last operation stores: a condition S on the world holds from operation to operation, but need not hold behind the last one. (After the library's OrdersHeld, whose words YieldsIf and wpOp_putIf serve here.)
   Walk of the document's Encode. (Printed by mkencr.py.)
   Walk of the document's Encode of an entry, at any ints. (Printed by mkencu.py.)
   Plain law: what is kept, as bytes, and read again: no program in sight.
   Plain law: what is kept, with its number, as bytes, and read again: no program in sight. -/
import Derived.Test.YtmhaahcbmdhinaaGreatDoorK8
import Derived.OrdersHeld
import Derived.Test.YtmhaahcbmdhinaaGreatDoorK2
import Derived.Test.YtmhaahcbmdhinaaGreatDoorK3
import Derived.Test.YtmhaahcbmdhinaaGreatDoorK7
namespace Go.Proofs.YtmhaahcbmdhinaaGreatDoor
set_option linter.unusedVariables false
section
variable {P : Program} {ops : Array Oper} {Q : Exit → Act → World → Prop} {md : Region.Mode} {S : World → Prop}
/-- Whatever order is picked from here on; S holds behind every operation that is carried out, but for number n. -/
def wpAnyM (P : Program) (md : Region.Mode) (ops : Array Oper) (Q : Exit → Act → World → Prop) (S : World → Prop) (n : Nat) : Nat → Array Bool → Act → World → Prop
  | 0, listed, a, w => Region.ready md ops listed = [] ∧ Q .normal a w
  | fuel + 1, listed, a, w => (Region.ready md ops listed = [] → Q .normal a w) ∧
    ∀ i ∈ Region.ready md ops listed, wpOp P ops Q i (fun a' w' => (i ≠ n → S w') ∧ wpAnyM P md ops Q S n fuel (listed.setIfInBounds i true) a' w') a w
theorem wpAny_of_M {n : Nat} : ∀ (fuel : Nat) (listed : Array Bool) (a : Act) (w : World), wpAnyM P md ops Q S n fuel listed a w → wpAny P md ops Q fuel listed a w
  | 0, _, _, _, h => h
  | fuel + 1, _, _, _, h => ⟨h.1, fun i hi => wpOp_mono (fun a' w' h' => wpAny_of_M fuel _ a' w' h'.2) (h.2 i hi)⟩
theorem wpAnyM_first {n i : Nat} {oi : Oper} {v : Value} (hi : ops[i]? = some oi) (hsel : ∀ (j : Nat) (o : Oper) cs b, ops[j]? = some o → o.op ≠ .select cs b)
    (hs : Region.sinkB md ops n = true) (hn : n + 1 = ops.size) (hin : i < n)
    (hQ : ∀ c a w, Q (.panic c) (a.put oi.dst v) w → Q (.panic c) a w) (fuel : Nat) :
    ∀ (listed : Array Bool) (a : Act) (w : World), HeadInv md ops n listed →
      (∀ j oj, ops[j]? = some oj → j ≠ i → listed.getD j true = false → (∀ e ∈ oj.after, Region.binds md e = true → e.on ≠ i) → oi.apart ops oj = true) →
      i ∈ Region.ready md ops listed → YieldsIf P ops S oi v a → S w →
      wpAnyM P md ops Q S n fuel (listed.setIfInBounds i true) (a.put oi.dst v) w → wpAnyM P md ops Q S n (fuel + 1) listed a w := by
  induction fuel with
  | zero =>
    intro listed a w inv _ hr hy hS H
    refine ⟨fun h => (by rw [h] at hr; cases hr), fun j hj => ?_⟩
    by_cases hji : j = i
    · subst hji
      exact hy.wpOp hi hS ⟨fun _ => hS, H⟩
    · have := ready_mono hj hji
      rw [H.1] at this
      cases this
  | succ fuel ih =>
    intro listed a w inv hfree hr hy hS H
    refine ⟨fun h => (by rw [h] at hr; cases hr), fun j hj => ?_⟩
    by_cases hji : j = i
    · subst hji
      exact hy.wpOp hi hS ⟨fun _ => hS, H⟩
    · have h1 := H.2 j (ready_mono hj hji)
      obtain ⟨hjun, oj, hoj, hall⟩ := mem_ready.1 hj
      have hun := (mem_ready.1 hr).1
      have hjn : j ≠ n := fun e => late_n hs (by omega) inv _ i rfl hin hun (e ▸ hj)
      have hjl : j < n := by have := (Array.getElem?_eq_some_iff.1 hoj).1; omega
      have hno : ∀ e ∈ oj.after, Region.binds md e = true → e.on ≠ i := by
        intro e he hb h
        have h2 := hall e he hb
        rw [h, getD_both hun] at h2
        cases h2
      have h2 := wpOp_putIf hoj (hfree j oj hoj hji hjun hno) (fun cs b => hsel i oi cs b hi) (fun cs b => hsel j oj cs b hoj) hQ hy h1
      have hri : i ∈ Region.ready md ops (listed.setIfInBounds j true) := ready_mono hr (Ne.symm hji)
      refine wpOp_mono (fun a' w' h3 => ?_) h2
      obtain ⟨hy3, hS3, H3⟩ := h3
      have hfree' : ∀ k ok, ops[k]? = some ok → k ≠ i → (listed.setIfInBounds j true).getD k true = false → (∀ e ∈ ok.after, Region.binds md e = true → e.on ≠ i) → oi.apart ops ok = true := by
        intro k ok hk hki hku hkn
        refine hfree k ok hk hki ?_ hkn
        by_cases hjk : j = k
        · subst hjk
          exact hjun
        · rwa [getD_set_ne true hjk] at hku
      rw [Array.setIfInBounds_comm _ _ (Ne.symm hji)] at H3
      exact ⟨fun _ => hS3 hjn, ih _ a' w' (inv.set hj hjl) hfree' hri hy3 (hS3 hjn) H3⟩
/-- What has come is closed; number n and those behind it have not come. -/
def invB (md : Region.Mode) (ops : Array Oper) (n : Nat) (listed : Array Bool) : Bool :=
  decide (listed.size = ops.size) && ((List.range ops.size).all fun j => !(listed.getD j false) || (match ops[j]? with
    | none => true
    | some o => o.after.all fun e => !(Region.binds md e) || listed.getD e.on false)) && ((List.range ops.size).all fun t => decide (t < n) || !(listed.getD t true))
theorem inv_of {n : Nat} {listed : Array Bool} (h : invB md ops n listed = true) : HeadInv md ops n listed := by
  simp only [invB, Bool.and_eq_true, decide_eq_true_eq] at h
  obtain ⟨⟨h1, h2⟩, h3⟩ := h
  refine ⟨h1, fun j oj hj hl e he hb => ?_, fun t ht htl => ?_⟩
  · have hjl := (Array.getElem?_eq_some_iff.1 hj).1
    have := List.all_eq_true.1 h2 j (List.mem_range.2 hjl)
    simp only [hj, hl, Bool.not_true, Bool.false_or] at this
    have := Array.all_eq_true'.1 this e he
    simpa [hb] using this
  · have := List.all_eq_true.1 h3 t (List.mem_range.2 htl)
    simp only [Bool.or_eq_true, decide_eq_true_eq] at this
    rcases this with h | h
    · omega
    · simpa using h
theorem wpAnyM_take {n i : Nat} {oi : Oper} {v : Value} {fuel : Nat} {listed : Array Bool} {a : Act} {w : World} (hi : ops[i]? = some oi)
    (hs : Region.noSelect ops = true) (hf : Region.free md ops listed i = true) (hr : (Region.ready md ops listed).contains i = true)
    (hk : (Region.sinkB md ops n && decide (n + 1 = ops.size) && decide (i < n) && invB md ops n listed) = true)
    (hQ : ∀ c a w, Q (.panic c) (a.put oi.dst v) w → Q (.panic c) a w) (hS : S w) (hw : Region.wanted oi (yielded ops a.tmps) = true) (hy : ∀ w, S w → (execOp a.eval oi).run P w = .ok (.value v) w)
    (h : wpAnyM P md ops Q S n fuel (listed.setIfInBounds i true) (a.put oi.dst v) w) : wpAnyM P md ops Q S n (fuel + 1) listed a w := by
  simp only [Bool.and_eq_true, decide_eq_true_eq] at hk
  exact wpAnyM_first hi (Region.noSelect_spec hs) hk.1.1.1 hk.1.1.2 hk.1.2 hQ fuel listed a w (inv_of hk.2) (Region.free_spec hi hf) (by simpa using hr) (.inl ⟨hw, hy⟩) hS h
/-- One that is not wanted is passed by. -/
theorem wpAnyM_skip {n i : Nat} {oi : Oper} {fuel : Nat} {listed : Array Bool} {a : Act} {w : World} (hi : ops[i]? = some oi)
    (hs : Region.noSelect ops = true) (hf : Region.free md ops listed i = true) (hr : (Region.ready md ops listed).contains i = true)
    (hk : (Region.sinkB md ops n && decide (n + 1 = ops.size) && decide (i < n) && invB md ops n listed) = true)
    (hQ : ∀ c a w, Q (.panic c) (a.put oi.dst undef) w → Q (.panic c) a w) (hS : S w) (hw : Region.wanted oi (yielded ops a.tmps) = false)
    (h : wpAnyM P md ops Q S n fuel (listed.setIfInBounds i true) (a.put oi.dst undef) w) : wpAnyM P md ops Q S n (fuel + 1) listed a w := by
  simp only [Bool.and_eq_true, decide_eq_true_eq] at hk
  exact wpAnyM_first hi (Region.noSelect_spec hs) hk.1.1.1 hk.1.1.2 hk.1.2 hQ fuel listed a w (inv_of hk.2) (Region.free_spec hi hf) (by simpa using hr) (.inr ⟨hw, rfl⟩) hS h
/-- Just one may come. -/
theorem wpAnyM_one {n i : Nat} {o : Oper} {fuel : Nat} {listed : Array Bool} {a : Act} {w : World} (hr : Region.ready md ops listed = [i]) (ho : ops[i]? = some o)
    (h : ∀ K : Act → World → Prop, (∀ a w, (i ≠ n → S w) → wpAnyM P md ops Q S n fuel (listed.setIfInBounds i true) a w → K a w) → if Region.wanted o (yielded ops a.tmps) = true then Oper.wp P o a w K Q else K (a.put o.dst undef) w) : wpAnyM P md ops Q S n (fuel + 1) listed a w := by
  refine ⟨fun h0 => (by rw [h0] at hr; cases hr), fun j hj => ?_⟩
  rw [hr] at hj
  obtain rfl := List.mem_singleton.1 hj
  exact wpOp_step ho (fun K hK => h K (fun a w hS hW => hK a w ⟨hS, hW⟩))
/-- One of two may come. -/
theorem wpAnyM_two {n i j : Nat} {o o' : Oper} {fuel : Nat} {listed : Array Bool} {a : Act} {w : World} (hr : Region.ready md ops listed = [i, j]) (ho : ops[i]? = some o) (ho' : ops[j]? = some o')
    (h : ∀ K : Act → World → Prop, (∀ a w, (i ≠ n → S w) → wpAnyM P md ops Q S n fuel (listed.setIfInBounds i true) a w → K a w) → if Region.wanted o (yielded ops a.tmps) = true then Oper.wp P o a w K Q else K (a.put o.dst undef) w)
    (h' : ∀ K : Act → World → Prop, (∀ a w, (j ≠ n → S w) → wpAnyM P md ops Q S n fuel (listed.setIfInBounds j true) a w → K a w) → if Region.wanted o' (yielded ops a.tmps) = true then Oper.wp P o' a w K Q else K (a.put o'.dst undef) w) : wpAnyM P md ops Q S n (fuel + 1) listed a w := by
  refine ⟨fun h0 => (by rw [h0] at hr; cases hr), fun k hk => ?_⟩
  rw [hr] at hk
  rcases List.mem_cons.1 hk with rfl | hk
  · exact wpOp_step ho (fun K hK => h K (fun a w hS hW => hK a w ⟨hS, hW⟩))
  · obtain rfl := List.mem_singleton.1 hk
    exact wpOp_step ho' (fun K hK => h' K (fun a w hS hW => hK a w ⟨hS, hW⟩))
theorem wpAnyM_takeD {n i d : Nat} {oi : Oper} {v : Value} {fuel : Nat} {listed : Array Bool} {a : Act} {w : World} (hi : ops[i]? = some oi)
    (hs : Region.noSelect ops = true) (hf : Region.free md ops listed i = true) (hr : (Region.ready md ops listed).contains i = true)
    (hk : (Region.sinkB md ops n && decide (n + 1 = ops.size) && decide (i < n) && invB md ops n listed) = true)
    (hQ : ∀ c a w, Q (.panic c) (a.put oi.dst v) w → Q (.panic c) a w) (hS : S w) (hd : oi.dst = some d) (hw : Region.wanted oi (yielded ops a.tmps) = true) (hy : ∀ w, S w → (execOp a.eval oi).run P w = .ok (.value v) w)
    (h : wpAnyM P md ops Q S n fuel (listed.setIfInBounds i true) (a.put (some d) v) w) : wpAnyM P md ops Q S n (fuel + 1) listed a w :=
  wpAnyM_take hi hs hf hr hk hQ hS hw hy (by rw [hd]; exact h)
theorem wpAnyM_skipD {n i d : Nat} {oi : Oper} {fuel : Nat} {listed : Array Bool} {a : Act} {w : World} (hi : ops[i]? = some oi)
    (hs : Region.noSelect ops = true) (hf : Region.free md ops listed i = true) (hr : (Region.ready md ops listed).contains i = true)
    (hk : (Region.sinkB md ops n && decide (n + 1 = ops.size) && decide (i < n) && invB md ops n listed) = true)
    (hQ : ∀ c a w, Q (.panic c) (a.put oi.dst undef) w → Q (.panic c) a w) (hS : S w) (hd : oi.dst = some d) (hw : Region.wanted oi (yielded ops a.tmps) = false)
    (h : wpAnyM P md ops Q S n fuel (listed.setIfInBounds i true) (a.put (some d) undef) w) : wpAnyM P md ops Q S n (fuel + 1) listed a w :=
  wpAnyM_skip hi hs hf hr hk hQ hS hw (by rw [hd]; exact h)
theorem wpAnyM_done {n : Nat} {listed : Array Bool} {a : Act} {w : World} (hr : Region.ready md ops listed = []) (h : Q .normal a w) : ∀ fuel, wpAnyM P md ops Q S n fuel listed a w
  | 0 => ⟨hr, h⟩
  | _ + 1 => ⟨fun _ => h, by rw [hr]; simp⟩
theorem wp_region_M {id : Nat} {a : Act} {w : World} (n : Nat) (S : World → Prop) (hm : P.follows .mixedOrders = true) (hS : S w.drew)
    (h : S w.drew → wpAnyM P .any ops Q S n ops.size (Array.replicate ops.size false) a w.drew) : (Code.region id ops true).wp P Q a w :=
  wp_region_any hm (wpAny_of_M _ _ _ _ (h hS))
end
end Go.Proofs.YtmhaahcbmdhinaaGreatDoor
namespace Go.Proofs.YtmhaahcbmdhinaaGreatDoor
open Go.RowKit
set_option maxRecDepth 100000
set_option linter.unusedVariables false
set_option linter.unusedSimpArgs false
theorem own_lo {W : World} {B B' : Nat} {e : TypeId} {size n m c : Nat} {A : Option Addr} {xs : List Value} (ho : W.ownsRow B e size (.slice A n c) m xs) (hB : B' ≤ B) : W.ownsRow B' e size (.slice A n c) m xs := by
  refine ⟨ho.1, ?_⟩
  rcases ho.2 with h1 | ⟨g, cap, cur, h1, h2, h4⟩
  · exact .inl h1
  · exact .inr ⟨g, cap, cur, h1, Nat.le_trans hB h2, h4⟩
set_option maxHeartbeats 3200000 in
theorem encodeR_nat (a b c : Nat) (A : Option Addr) (n m : Nat) (d : List UInt8) (w : World) (ha : a ≤ 9223372036854775807) (hb' : b ≤ 9223372036854775807) (hc' : c ≤ 9223372036854775807) (hr : Rd w T 1 A n (bs d)) (hn : n ≤ 1000000) :
    Calls Tryz.prog 200 #[.agg #[.int .i64 a, .int .i64 b, .int .i64 c, .slice A n m]] w (BytesPost w (encN a b c d)) := by
  obtain ⟨W0, hW0⟩ : ∃ W0, W0 = w.alloc (.cells #[.int .i64 a, .int .i64 b, .int .i64 c, .slice A n m] 104) := ⟨_, rfl⟩
  have b0 : Bx W0 w.heap.size #[.int .i64 a, .int .i64 b, .int .i64 c, .slice A n m] := by subst hW0; exact Bx.new _ _ _ rfl
  have r0 : Rd W0 T 1 A n (bs d) := by subst hW0; exact hr.alloc _
  have hbe : Below w.heap.size w W0 := by subst hW0; exact (Below.refl _ _).alloc (Nat.le_refl _) _
  have sof : ∀ W, Below W0.heap.size W0 W → (Below W0.heap.size W0 W ∧ W.cell? ⟨w.heap.size, 0, none⟩ = some (.int .i64 a) ∧ W.cell? ⟨w.heap.size, 1, none⟩ = some (.int .i64 b) ∧ W.cell? ⟨w.heap.size, 2, none⟩ = some (.int .i64 c) ∧ W.cell? ⟨w.heap.size, 3, none⟩ = some (.slice A n m)) :=
    fun W h => ⟨h, (b0.below h).c 0, (b0.below h).c 1, (b0.below h).c 2, (b0.below h).c 3⟩
  have la := uintL_len a (by omega)
  have lb := uintL_len b (by omega)
  have lc := uintL_len c (by omega)
  have wa : IntKind.u64.wrap (a : Int) = (a : Int) := by rw [IntKind.wrap_u64]; omega
  have wb : IntKind.u64.wrap (b : Int) = (b : Int) := by rw [IntKind.wrap_u64]; omega
  have wc : IntKind.u64.wrap (c : Int) = (c : Int) := by rw [IntKind.wrap_u64]; omega
  have s0 := sof _ (Below.refl _ _).drew
  have Sof := Lib.hid sof
  have Hbe := Lib.hid hbe
  have HW := Lib.hid hW0
  have R0 := Lib.hid r0
  have Ls := Lib.hid (And.intro la (And.intro lb lc))
  clear hr b0 r0 hbe hW0 sof la lb lc
  go_enter Tryz.func200, Tryz.ntmps200
  go_upto_region 1 with (fail)
  rw [← HW.out]
  refine wp_region_M 15 (fun W => Below W0.heap.size W0 W ∧ W.cell? ⟨w.heap.size, 0, none⟩ = some (.int .i64 a) ∧ W.cell? ⟨w.heap.size, 1, none⟩ = some (.int .i64 b) ∧ W.cell? ⟨w.heap.size, 2, none⟩ = some (.int .i64 c) ∧ W.cell? ⟨w.heap.size, 3, none⟩ = some (.slice A n m)) (by kernel_rfl) s0 (fun hS => ?_)
  refine wpAnyM_take (i := 0) (v := ?_) rfl (by kernel_rfl) (by kernel_rfl) (by kernel_rfl) (by kernel_rfl) (fun _ _ _ h => h) hS (by rfl) ?_ ?_
  rotate_left
  · rintro W ⟨-, s1, s2, s3, s4⟩
    go_simp
    try with_reducible rfl
  try simp only [Act.put, List.setIfInBounds_toArray, List.set_cons_zero, List.set_cons_succ]
  refine wpAnyM_take (i := 1) (v := ?_) rfl (by kernel_rfl) (by kernel_rfl) (by kernel_rfl) (by kernel_rfl) (fun _ _ _ h => h) hS (by rfl) ?_ ?_
  rotate_left
  · rintro W ⟨-, s1, s2, s3, s4⟩
    go_simp
    try with_reducible rfl
  try simp only [Act.put, List.setIfInBounds_toArray, List.set_cons_zero, List.set_cons_succ]
  refine wpAnyM_take (i := 2) (v := ?_) rfl (by kernel_rfl) (by kernel_rfl) (by kernel_rfl) (by kernel_rfl) (fun _ _ _ h => h) hS (by rfl) ?_ ?_
  rotate_left
  · rintro W ⟨-, s1, s2, s3, s4⟩
    go_simp
    try with_reducible rfl
  try simp only [Act.put, List.setIfInBounds_toArray, List.set_cons_zero, List.set_cons_succ]
  refine wpAnyM_take (i := 4) (v := ?_) rfl (by kernel_rfl) (by kernel_rfl) (by kernel_rfl) (by kernel_rfl) (fun _ _ _ h => h) hS (by rfl) ?_ ?_
  rotate_left
  · rintro W ⟨-, s1, s2, s3, s4⟩
    go_simp
    try with_reducible rfl
  try simp only [Act.put, List.setIfInBounds_toArray, List.set_cons_zero, List.set_cons_succ]
  refine wpAnyM_take (i := 5) (v := ?_) rfl (by kernel_rfl) (by kernel_rfl) (by kernel_rfl) (by kernel_rfl) (fun _ _ _ h => h) hS (by rfl) ?_ ?_
  rotate_left
  · rintro W ⟨-, s1, s2, s3, s4⟩
    go_simp
    try with_reducible rfl
  try simp only [Act.put, List.setIfInBounds_toArray, List.set_cons_zero, List.set_cons_succ]
  refine wpAnyM_take (i := 6) (v := ?_) rfl (by kernel_rfl) (by kernel_rfl) (by kernel_rfl) (by kernel_rfl) (fun _ _ _ h => h) hS (by rfl) ?_ ?_
  rotate_left
  · rintro W ⟨-, s1, s2, s3, s4⟩
    go_simp
    try with_reducible rfl
  try simp only [Act.put, List.setIfInBounds_toArray, List.set_cons_zero, List.set_cons_succ]
  refine wpAnyM_take (i := 8) (v := ?_) rfl (by kernel_rfl) (by kernel_rfl) (by kernel_rfl) (by kernel_rfl) (fun _ _ _ h => h) hS (by rfl) ?_ ?_
  rotate_left
  · rintro W ⟨-, s1, s2, s3, s4⟩
    go_simp
    try with_reducible rfl
  try simp only [Act.put, List.setIfInBounds_toArray, List.set_cons_zero, List.set_cons_succ]
  refine wpAnyM_take (i := 9) (v := ?_) rfl (by kernel_rfl) (by kernel_rfl) (by kernel_rfl) (by kernel_rfl) (fun _ _ _ h => h) hS (by rfl) ?_ ?_
  rotate_left
  · rintro W ⟨-, s1, s2, s3, s4⟩
    go_simp
    try with_reducible rfl
  try simp only [Act.put, List.setIfInBounds_toArray, List.set_cons_zero, List.set_cons_succ]
  refine wpAnyM_take (i := 10) (v := ?_) rfl (by kernel_rfl) (by kernel_rfl) (by kernel_rfl) (by kernel_rfl) (fun _ _ _ h => h) hS (by rfl) ?_ ?_
  rotate_left
  · rintro W ⟨-, s1, s2, s3, s4⟩
    go_simp
    try with_reducible rfl
  try simp only [Act.put, List.setIfInBounds_toArray, List.set_cons_zero, List.set_cons_succ]
  refine wpAnyM_take (i := 12) (v := ?_) rfl (by kernel_rfl) (by kernel_rfl) (by kernel_rfl) (by kernel_rfl) (fun _ _ _ h => h) hS (by rfl) ?_ ?_
  rotate_left
  · rintro W ⟨-, s1, s2, s3, s4⟩
    go_simp
    try with_reducible rfl
  try simp only [Act.put, List.setIfInBounds_toArray, List.set_cons_zero, List.set_cons_succ]
  refine wpAnyM_take (i := 13) (v := ?_) rfl (by kernel_rfl) (by kernel_rfl) (by kernel_rfl) (by kernel_rfl) (fun _ _ _ h => h) hS (by rfl) ?_ ?_
  rotate_left
  · rintro W ⟨-, s1, s2, s3, s4⟩
    go_simp
    try with_reducible rfl
  try simp only [Act.put, List.setIfInBounds_toArray, List.set_cons_zero, List.set_cons_succ]
  refine wpAnyM_one (i := 3) (by kernel_rfl) rfl (fun K hK => ?_)
  go_simp
  go_at_call 197
  refine (uintR_any none 0 0 [] a (by omega) _ Rd.none_ (by omega)).mono ?_
  rintro e w1 ⟨A1, n1, c1, rfl, h1, hb1⟩
  have hS1 := Sof.out w1 (hS.1.trans (hb1.mono hS.1.size))
  have r1 := (Rd.of_own h1).any
  have l1 := r1.blen
  clear hS
  have hS := hS1
  have R1 := Lib.hid r1
  have L1 := Lib.hid l1
  have B1 := Lib.hid hb1
  have O1 := Lib.hid h1
  clear hS1 r1 l1 hb1 h1
  refine hK _ _ (fun _ => hS) ?_
  clear hK K
  try simp only [Act.put, List.setIfInBounds_toArray, List.set_cons_zero, List.set_cons_succ]
  refine wpAnyM_one (i := 7) (by kernel_rfl) rfl (fun K hK => ?_)
  go_simp
  go_at_call 197
  refine (uintR_any A1 n1 c1 _ b (by omega) _ R1.out (by have := L1.out; have := Ls.out.1; simp at *; omega)).mono ?_
  rintro e w2 ⟨A2, n2, c2, rfl, h2, hb2⟩
  have hS2 := Sof.out w2 (hS.1.trans (hb2.mono hS.1.size))
  have r2 := (Rd.of_own h2).any
  have l2 := r2.blen
  clear hS
  have hS := hS2
  have R2 := Lib.hid r2
  have L2 := Lib.hid l2
  have B2 := Lib.hid hb2
  have O2 := Lib.hid h2
  clear hS2 r2 l2 hb2 h2
  refine hK _ _ (fun _ => hS) ?_
  clear hK K
  try simp only [Act.put, List.setIfInBounds_toArray, List.set_cons_zero, List.set_cons_succ]
  refine wpAnyM_one (i := 11) (by kernel_rfl) rfl (fun K hK => ?_)
  go_simp
  go_at_call 197
  refine (uintR_any A2 n2 c2 _ c (by omega) _ R2.out (by have := L2.out; have := Ls.out.1; have := Ls.out.2.1; simp at *; omega)).mono ?_
  rintro e w3 ⟨A3, n3, c3, rfl, h3, hb3⟩
  have hS3 := Sof.out w3 (hS.1.trans (hb3.mono hS.1.size))
  have r3 := (Rd.of_own h3).any
  have l3 := r3.blen
  clear hS
  have hS := hS3
  have R3 := Lib.hid r3
  have L3 := Lib.hid l3
  have B3 := Lib.hid hb3
  have O3 := Lib.hid h3
  clear hS3 r3 l3 hb3 h3
  refine hK _ _ (fun _ => hS) ?_
  clear hK K
  try simp only [Act.put, List.setIfInBounds_toArray, List.set_cons_zero, List.set_cons_succ]
  refine wpAnyM_one (i := 14) (by kernel_rfl) rfl (fun K hK => ?_)
  go_simp
  go_at_call 198
  refine (bytesR_any A3 n3 c3 _ A n m d _ R3.out (by have := L3.out; have := Ls.out.1; have := Ls.out.2.1; have := Ls.out.2.2; simp at *; omega) (R0.out.below hS.1) (by omega)).mono ?_
  rintro e w4 ⟨A4, n4, c4, rfl, h4, hb4⟩
  have hS4 := Sof.out w4 (hS.1.trans (hb4.mono hS.1.size))
  have r4 := (Rd.of_own h4).any
  have l4 := r4.blen
  clear hS
  have hS := hS4
  have R4 := Lib.hid r4
  have L4 := Lib.hid l4
  have B4 := Lib.hid hb4
  have O4 := Lib.hid h4
  clear hS4 r4 l4 hb4 h4
  refine hK _ _ (fun _ => hS) ?_
  clear hK K
  try simp only [Act.put, List.setIfInBounds_toArray, List.set_cons_zero, List.set_cons_succ]
  refine wpAnyM_one (i := 15) (by kernel_rfl) rfl (fun K hK => ?_)
  go_simp
  refine hK _ _ (fun h => absurd rfl h) ?_
  clear hK K
  refine wpAnyM_done (by kernel_rfl) ?_ _
  go_wp2_with fail
  go_ret
  have hz := B1.out.size
  exact ⟨A4, n4, c4, rfl, own_lo O4.out (by have h1 := B3.out.size; have h2 := B2.out.size; have h3 := Hbe.out.size; have h4 : W0.drew.heap.size = W0.heap.size := rfl; omega), Hbe.out.trans (hS.1.mono Hbe.out.size)⟩
end Go.Proofs.YtmhaahcbmdhinaaGreatDoor
namespace Go.Proofs.YtmhaahcbmdhinaaGreatDoor
open Go.RowKit
set_option maxRecDepth 100000
set_option linter.unusedVariables false
set_option linter.unusedSimpArgs false
set_option maxHeartbeats 3200000 in
theorem encodeR_int (a b c : Int) (A : Option Addr) (n m : Nat) (d : List UInt8) (w : World) (hr : Rd w T 1 A n (bs d)) (hn : n ≤ 1000000) :
    Calls Tryz.prog 200 #[.agg #[.int .i64 a, .int .i64 b, .int .i64 c, .slice A n m]] w (BytesPost w (encN (uN a) (uN b) (uN c) d)) := by
  obtain ⟨W0, hW0⟩ : ∃ W0, W0 = w.alloc (.cells #[.int .i64 a, .int .i64 b, .int .i64 c, .slice A n m] 104) := ⟨_, rfl⟩
  have b0 : Bx W0 w.heap.size #[.int .i64 a, .int .i64 b, .int .i64 c, .slice A n m] := by subst hW0; exact Bx.new _ _ _ rfl
  have r0 : Rd W0 T 1 A n (bs d) := by subst hW0; exact hr.alloc _
  have hbe : Below w.heap.size w W0 := by subst hW0; exact (Below.refl _ _).alloc (Nat.le_refl _) _
  have sof : ∀ W, Below W0.heap.size W0 W → (Below W0.heap.size W0 W ∧ W.cell? ⟨w.heap.size, 0, none⟩ = some (.int .i64 a) ∧ W.cell? ⟨w.heap.size, 1, none⟩ = some (.int .i64 b) ∧ W.cell? ⟨w.heap.size, 2, none⟩ = some (.int .i64 c) ∧ W.cell? ⟨w.heap.size, 3, none⟩ = some (.slice A n m)) :=
    fun W h => ⟨h, (b0.below h).c 0, (b0.below h).c 1, (b0.below h).c 2, (b0.below h).c 3⟩
  have la := uintL_len (uN a) (uN_lt a)
  have lb := uintL_len (uN b) (uN_lt b)
  have lc := uintL_len (uN c) (uN_lt c)
  have wa : IntKind.u64.wrap a = (uN a : Int) := uN_eq a
  have wb : IntKind.u64.wrap b = (uN b : Int) := uN_eq b
  have wc : IntKind.u64.wrap c = (uN c : Int) := uN_eq c
  have s0 := sof _ (Below.refl _ _).drew
  have Sof := Lib.hid sof
  have Hbe := Lib.hid hbe
  have HW := Lib.hid hW0
  have R0 := Lib.hid r0
  have Ls := Lib.hid (And.intro la (And.intro lb lc))
  clear hr b0 r0 hbe hW0 sof la lb lc
  go_enter Tryz.func200, Tryz.ntmps200
  go_upto_region 1 with (fail)
  rw [← HW.out]
  refine wp_region_M 15 (fun W => Below W0.heap.size W0 W ∧ W.cell? ⟨w.heap.size, 0, none⟩ = some (.int .i64 a) ∧ W.cell? ⟨w.heap.size, 1, none⟩ = some (.int .i64 b) ∧ W.cell? ⟨w.heap.size, 2, none⟩ = some (.int .i64 c) ∧ W.cell? ⟨w.heap.size, 3, none⟩ = some (.slice A n m)) (by kernel_rfl) s0 (fun hS => ?_)
  refine wpAnyM_take (i := 0) (v := ?_) rfl (by kernel_rfl) (by kernel_rfl) (by kernel_rfl) (by kernel_rfl) (fun _ _ _ h => h) hS (by rfl) ?_ ?_
  rotate_left
  · rintro W ⟨-, s1, s2, s3, s4⟩
    go_simp
    try with_reducible rfl
  try simp only [Act.put, List.setIfInBounds_toArray, List.set_cons_zero, List.set_cons_succ]
  refine wpAnyM_take (i := 1) (v := ?_) rfl (by kernel_rfl) (by kernel_rfl) (by kernel_rfl) (by kernel_rfl) (fun _ _ _ h => h) hS (by rfl) ?_ ?_
  rotate_left
  · rintro W ⟨-, s1, s2, s3, s4⟩
    go_simp
    try with_reducible rfl
  try simp only [Act.put, List.setIfInBounds_toArray, List.set_cons_zero, List.set_cons_succ]
  refine wpAnyM_take (i := 2) (v := ?_) rfl (by kernel_rfl) (by kernel_rfl) (by kernel_rfl) (by kernel_rfl) (fun _ _ _ h => h) hS (by rfl) ?_ ?_
  rotate_left
  · rintro W ⟨-, s1, s2, s3, s4⟩
    go_simp
    try with_reducible rfl
  try simp only [Act.put, List.setIfInBounds_toArray, List.set_cons_zero, List.set_cons_succ]
  refine wpAnyM_take (i := 4) (v := ?_) rfl (by kernel_rfl) (by kernel_rfl) (by kernel_rfl) (by kernel_rfl) (fun _ _ _ h => h) hS (by rfl) ?_ ?_
  rotate_left
  · rintro W ⟨-, s1, s2, s3, s4⟩
    go_simp
    try with_reducible rfl
  try simp only [Act.put, List.setIfInBounds_toArray, List.set_cons_zero, List.set_cons_succ]
  refine wpAnyM_take (i := 5) (v := ?_) rfl (by kernel_rfl) (by kernel_rfl) (by kernel_rfl) (by kernel_rfl) (fun _ _ _ h => h) hS (by rfl) ?_ ?_
  rotate_left
  · rintro W ⟨-, s1, s2, s3, s4⟩
    go_simp
    try with_reducible rfl
  try simp only [Act.put, List.setIfInBounds_toArray, List.set_cons_zero, List.set_cons_succ]
  refine wpAnyM_take (i := 6) (v := ?_) rfl (by kernel_rfl) (by kernel_rfl) (by kernel_rfl) (by kernel_rfl) (fun _ _ _ h => h) hS (by rfl) ?_ ?_
  rotate_left
  · rintro W ⟨-, s1, s2, s3, s4⟩
    go_simp
    try with_reducible rfl
  try simp only [Act.put, List.setIfInBounds_toArray, List.set_cons_zero, List.set_cons_succ]
  refine wpAnyM_take (i := 8) (v := ?_) rfl (by kernel_rfl) (by kernel_rfl) (by kernel_rfl) (by kernel_rfl) (fun _ _ _ h => h) hS (by rfl) ?_ ?_
  rotate_left
  · rintro W ⟨-, s1, s2, s3, s4⟩
    go_simp
    try with_reducible rfl
  try simp only [Act.put, List.setIfInBounds_toArray, List.set_cons_zero, List.set_cons_succ]
  refine wpAnyM_take (i := 9) (v := ?_) rfl (by kernel_rfl) (by kernel_rfl) (by kernel_rfl) (by kernel_rfl) (fun _ _ _ h => h) hS (by rfl) ?_ ?_
  rotate_left
  · rintro W ⟨-, s1, s2, s3, s4⟩
    go_simp
    try with_reducible rfl
  try simp only [Act.put, List.setIfInBounds_toArray, List.set_cons_zero, List.set_cons_succ]
  refine wpAnyM_take (i := 10) (v := ?_) rfl (by kernel_rfl) (by kernel_rfl) (by kernel_rfl) (by kernel_rfl) (fun _ _ _ h => h) hS (by rfl) ?_ ?_
  rotate_left
  · rintro W ⟨-, s1, s2, s3, s4⟩
    go_simp
    try with_reducible rfl
  try simp only [Act.put, List.setIfInBounds_toArray, List.set_cons_zero, List.set_cons_succ]
  refine wpAnyM_take (i := 12) (v := ?_) rfl (by kernel_rfl) (by kernel_rfl) (by kernel_rfl) (by kernel_rfl) (fun _ _ _ h => h) hS (by rfl) ?_ ?_
  rotate_left
  · rintro W ⟨-, s1, s2, s3, s4⟩
    go_simp
    try with_reducible rfl
  try simp only [Act.put, List.setIfInBounds_toArray, List.set_cons_zero, List.set_cons_succ]
  refine wpAnyM_take (i := 13) (v := ?_) rfl (by kernel_rfl) (by kernel_rfl) (by kernel_rfl) (by kernel_rfl) (fun _ _ _ h => h) hS (by rfl) ?_ ?_
  rotate_left
  · rintro W ⟨-, s1, s2, s3, s4⟩
    go_simp
    try with_reducible rfl
  try simp only [Act.put, List.setIfInBounds_toArray, List.set_cons_zero, List.set_cons_succ]
  refine wpAnyM_one (i := 3) (by kernel_rfl) rfl (fun K hK => ?_)
  go_simp
  go_at_call 197
  refine (uintR_any none 0 0 [] (uN a) (uN_lt a) _ Rd.none_ (by omega)).mono ?_
  rintro e w1 ⟨A1, n1, c1, rfl, h1, hb1⟩
  have hS1 := Sof.out w1 (hS.1.trans (hb1.mono hS.1.size))
  have r1 := (Rd.of_own h1).any
  have l1 := r1.blen
  clear hS
  have hS := hS1
  have R1 := Lib.hid r1
  have L1 := Lib.hid l1
  have B1 := Lib.hid hb1
  have O1 := Lib.hid h1
  clear hS1 r1 l1 hb1 h1
  refine hK _ _ (fun _ => hS) ?_
  clear hK K
  try simp only [Act.put, List.setIfInBounds_toArray, List.set_cons_zero, List.set_cons_succ]
  refine wpAnyM_one (i := 7) (by kernel_rfl) rfl (fun K hK => ?_)
  go_simp
  go_at_call 197
  refine (uintR_any A1 n1 c1 _ (uN b) (uN_lt b) _ R1.out (by have := L1.out; have := Ls.out.1; simp at *; omega)).mono ?_
  rintro e w2 ⟨A2, n2, c2, rfl, h2, hb2⟩
  have hS2 := Sof.out w2 (hS.1.trans (hb2.mono hS.1.size))
  have r2 := (Rd.of_own h2).any
  have l2 := r2.blen
  clear hS
  have hS := hS2
  have R2 := Lib.hid r2
  have L2 := Lib.hid l2
  have B2 := Lib.hid hb2
  have O2 := Lib.hid h2
  clear hS2 r2 l2 hb2 h2
  refine hK _ _ (fun _ => hS) ?_
  clear hK K
  try simp only [Act.put, List.setIfInBounds_toArray, List.set_cons_zero, List.set_cons_succ]
  refine wpAnyM_one (i := 11) (by kernel_rfl) rfl (fun K hK => ?_)
  go_simp
  go_at_call 197
  refine (uintR_any A2 n2 c2 _ (uN c) (uN_lt c) _ R2.out (by have := L2.out; have := Ls.out.1; have := Ls.out.2.1; simp at *; omega)).mono ?_
  rintro e w3 ⟨A3, n3, c3, rfl, h3, hb3⟩
  have hS3 := Sof.out w3 (hS.1.trans (hb3.mono hS.1.size))
  have r3 := (Rd.of_own h3).any
  have l3 := r3.blen
  clear hS
  have hS := hS3
  have R3 := Lib.hid r3
  have L3 := Lib.hid l3
  have B3 := Lib.hid hb3
  have O3 := Lib.hid h3
  clear hS3 r3 l3 hb3 h3
  refine hK _ _ (fun _ => hS) ?_
  clear hK K
  try simp only [Act.put, List.setIfInBounds_toArray, List.set_cons_zero, List.set_cons_succ]
  refine wpAnyM_one (i := 14) (by kernel_rfl) rfl (fun K hK => ?_)
  go_simp
  go_at_call 198
  refine (bytesR_any A3 n3 c3 _ A n m d _ R3.out (by have := L3.out; have := Ls.out.1; have := Ls.out.2.1; have := Ls.out.2.2; simp at *; omega) (R0.out.below hS.1) (by omega)).mono ?_
  rintro e w4 ⟨A4, n4, c4, rfl, h4, hb4⟩
  have hS4 := Sof.out w4 (hS.1.trans (hb4.mono hS.1.size))
  have r4 := (Rd.of_own h4).any
  have l4 := r4.blen
  clear hS
  have hS := hS4
  have R4 := Lib.hid r4
  have L4 := Lib.hid l4
  have B4 := Lib.hid hb4
  have O4 := Lib.hid h4
  clear hS4 r4 l4 hb4 h4
  refine hK _ _ (fun _ => hS) ?_
  clear hK K
  try simp only [Act.put, List.setIfInBounds_toArray, List.set_cons_zero, List.set_cons_succ]
  refine wpAnyM_one (i := 15) (by kernel_rfl) rfl (fun K hK => ?_)
  go_simp
  refine hK _ _ (fun h => absurd rfl h) ?_
  clear hK K
  refine wpAnyM_done (by kernel_rfl) ?_ _
  go_wp2_with fail
  go_ret
  have hz := B1.out.size
  exact ⟨A4, n4, c4, rfl, own_lo O4.out (by have h1 := B3.out.size; have h2 := B2.out.size; have h3 := Hbe.out.size; have h4 : W0.drew.heap.size = W0.heap.size := rfl; omega), Hbe.out.trans (hS.1.mono Hbe.out.size)⟩
end Go.Proofs.YtmhaahcbmdhinaaGreatDoor
namespace Go.Proofs.YtmhaahcbmdhinaaGreatDoor
set_option linter.unusedVariables false
set_option linter.unusedSimpArgs false
theorem dec_digs : ∀ u, Digs (Lib.decDigits u) := by
  intro u
  induction u using Nat.strongRecOn with
  | _ u ih =>
    rw [Lib.decDigits]
    split
    · intro c hc
      simp only [List.mem_singleton] at hc
      subst hc
      rw [isDig_iff, UInt8.toNat_ofNat']
      omega
    · intro c hc
      rw [List.mem_append] at hc
      rcases hc with hc | hc
      · exact ih _ (by omega) c hc
      · simp only [List.mem_singleton] at hc
        subst hc
        rw [isDig_iff, UInt8.toNat_ofNat']
        omega
theorem dec_val : ∀ u, decN 0 (Lib.decDigits u) = u := by
  intro u
  induction u using Nat.strongRecOn with
  | _ u ih =>
    rw [Lib.decDigits]
    split
    · rw [decN_cons, decN_nil, UInt8.toNat_ofNat']
      omega
    · rw [decN_snoc, ih _ (by omega), UInt8.toNat_ofNat']
      omega
theorem dec_ne (u : Nat) : Lib.decDigits u ≠ [] := by
  rw [Lib.decDigits]
  split <;> simp
theorem dec_head : ∀ u, 1 ≤ u → (Lib.decDigits u).head? ≠ some 48 := by
  intro u
  induction u using Nat.strongRecOn with
  | _ u ih =>
    intro h
    rw [Lib.decDigits]
    split
    · intro e
      have e1 : UInt8.ofNat (48 + u) = 48 := by simpa using e
      have e2 := congrArg UInt8.toNat e1
      rw [UInt8.toNat_ofNat'] at e2
      have : (48 : UInt8).toNat = 48 := rfl
      omega
    · have h1 := ih (u / 10) (by omega) (by omega)
      have h2 := dec_ne (u / 10)
      cases hd : Lib.decDigits (u / 10) with
      | nil => exact absurd hd h2
      | cons x l => rw [hd] at h1; exact h1
theorem dec_len {u : Nat} (hu : u < 18446744073709551616) : (Lib.decDigits u).length ≤ 20 := dig_size u hu
theorem dnum_dec {u : Nat} (hu : u < 18446744073709551616) : dnum (Lib.decDigits u) = .inr (u, (Lib.decDigits u).length) := by
  rw [dnum_digs (dec_digs u), if_neg (dec_ne u), dec_val, if_pos hu]
  refine if_neg ?_
  rintro ⟨h1, h2⟩
  by_cases h0 : 1 ≤ u
  · exact dec_head u h0 h1
  · obtain rfl : u = 0 := by omega
    rw [Lib.decDigits] at h2
    simp at h2
theorem dscan_run {sg : UInt8} (hsg : isDig sg = false) : ∀ (ds acc r : List UInt8), Digs ds → acc.length + ds.length ≤ 20 → dscan sg acc (ds ++ sg :: r) = dnum (acc ++ ds)
  | [], acc, r, _, _ => by rw [List.nil_append, dscan, if_pos rfl, List.append_nil]
  | c :: ds, acc, r, h, hl => by
    have hc := h c (by simp)
    rw [List.cons_append, dscan, if_neg (fun e => by subst e; rw [hsg] at hc; cases hc), if_neg, dscan_run hsg ds (acc ++ [c]) r (fun x hx => h x (List.mem_cons_of_mem _ hx)) (by simp at hl ⊢; omega)]
    · simp
    · rw [hc]
      simp at hl ⊢
      omega
theorem pnum_lay {x sg : UInt8} (hsg : isDig sg = false) {u : Nat} (hu : u < 18446744073709551616) (r : List UInt8) : pnum x sg (x :: (Lib.decDigits u ++ sg :: r)) = .inr (u, (Lib.decDigits u).length) := by
  rw [pnum, if_pos rfl, dscan_run hsg _ _ _ (dec_digs u) (by have := dec_len hu; simp; omega), List.nil_append, dnum_dec hu]
theorem numS_lay {x sg : UInt8} (hsg : isDig sg = false) {u : Nat} (hu : u < 18446744073709551616) (r : List UInt8) : numS x sg (x :: (Lib.decDigits u ++ sg :: r), 0) = ((x :: (Lib.decDigits u ++ sg :: r), 0), some (u, (Lib.decDigits u).length + 2)) := by
  rw [numS_eq rfl, pnum_lay hsg hu, numR_inr]
theorem drop_lay (x sg : UInt8) (ds r : List UInt8) (k : Nat) : (x :: (ds ++ sg :: r)).drop (ds.length + 2 + k) = r.drop k := by
  rw [show ds.length + 2 + k = (ds.length + (1 + k)) + 1 from by omega, List.drop_succ_cons, List.drop_append, show ds.length + (1 + k) - ds.length = k + 1 from by omega, List.drop_succ_cons, List.drop_of_length_le (by omega), List.nil_append]
theorem uintL_app (u : Nat) (r : List UInt8) : uintL u ++ r = 110 :: (Lib.decDigits u ++ 59 :: r) := by simp [uintL]
theorem bytesL_app (d r : List UInt8) : bytesL d ++ r = 98 :: (Lib.decDigits d.length ++ 58 :: (d ++ r)) := by simp [bytesL]
theorem uintS_lay {most u : Nat} (hu : u < 18446744073709551616) (hm : u ≤ most) (r : List UInt8) : uintS most (uintL u ++ r, 0) = ((r, 0), u) := by
  rw [uintL_app, uintS_ok (numS_lay (by decide) hu r) (by omega), show (Lib.decDigits u).length + 2 = (Lib.decDigits u).length + 2 + 0 from rfl, drop_lay]
  rfl
theorem boundS_lay {most u : Nat} (hu : u < 18446744073709551616) (hm : u ≤ most) (r : List UInt8) : boundS most (uintL u ++ r, 0) = ((uintL u ++ r, 0), some (u, (Lib.decDigits u).length + 2)) := by
  rw [uintL_app, boundS_eq (numS_lay (by decide) hu r), boundR_some, if_neg (by omega)]
theorem countS_lay {most u : Nat} (hu : u < 18446744073709551616) (hm : u ≤ most) (r : List UInt8) (hr : u ≤ r.length) : countS most (uintL u ++ r, 0) = ((r, 0), u) := by
  unfold countS
  rw [boundS_lay hu hm r]
  dsimp only
  rw [uintL_app, show (Lib.decDigits u).length + 2 = (Lib.decDigits u).length + 2 + 0 from rfl, drop_lay, if_neg]
  · rfl
  · simp
    omega
theorem bytesS_lay {most : Nat} {d : List UInt8} (hd : d.length < 18446744073709551616) (hm : d.length ≤ most) (r : List UInt8) : bytesS most (bytesL d ++ r, 0) = ((r, 0), d) := by
  rw [bytesL_app, bytesS_some (numS_lay (by decide) hd (d ++ r)), if_neg (by omega), if_neg (by simp; omega), drop_lay, show (Lib.decDigits d.length).length + 2 = (Lib.decDigits d.length).length + 2 + 0 from rfl, drop_lay]
  simp
theorem entS_lay {a b c : Nat} {d : List UInt8} (ha : a ≤ 1099511627776) (hb : b ≤ 1099511627776) (hc : c ≤ 2) (hd : d.length ≤ 4096) : entS (encN a b c d, 0) = (([], 0), (a, b, c, d)) := by
  have e : encN a b c d = uintL a ++ (uintL b ++ (uintL c ++ (bytesL d ++ []))) := by simp [encN]
  rw [e]
  exact entS_eq (uintS_lay (by omega) ha _) (uintS_lay (by omega) hb _) (uintS_lay (by omega) hc _) (bytesS_lay (by omega) hd _)
theorem entD_lay {a b c : Nat} {d : List UInt8} (ha : a ≤ 1099511627776) (hb : b ≤ 1099511627776) (hc : c ≤ 2) (hd : d.length ≤ 4096) (h1 : 1 ≤ a) (h2 : 1 ≤ b) : entD (encN a b c d) = some (a, b, c, d) := by
  rw [entD_eq (entS_lay ha hb hc hd), if_pos ⟨rfl, h1, h2⟩]
theorem confR_lay : ∀ (l : List Int) (r : List UInt8), (∀ z ∈ l, 0 ≤ z ∧ z ≤ 64) → confR l.length (confF l ++ r, 0) = ((r, 0), l)
  | [], r, _ => by simp [confR_zero, confF]
  | z :: l, r, h => by
    have hz := h z (by simp)
    have hu : uN z = z.toNat := by
      have := uN_nat z.toNat (by omega)
      rwa [Int.toNat_of_nonneg hz.1] at this
    have e : confF (z :: l) ++ r = uintL z.toNat ++ (confF l ++ r) := by simp [confF, hu]
    rw [List.length_cons, e, confR_succ, uintS_lay (by omega) (by omega), confR_lay l r fun x hx => h x (List.mem_cons_of_mem _ hx)]
    simp only [Int.toNat_of_nonneg hz.1]
theorem uintL_pos (u : Nat) : 1 ≤ (uintL u).length := by simp [uintL]
theorem confF_ge : ∀ (l : List Int), l.length ≤ (confF l).length
  | [] => by simp
  | z :: l => by
    have := confF_ge l
    have h2 := uintL_pos (uN z)
    simp only [confF, List.map_cons, List.flatten_cons, List.length_append, List.length_cons] at this ⊢
    omega
theorem cmay_small {l : List Int} (h : cmay l = true) : 1 ≤ l.length ∧ l.length ≤ 7 ∧ ∀ z ∈ l, 0 ≤ z ∧ z ≤ 64 := by
  obtain ⟨h1, _, h2, h3⟩ := cmay_iff.1 h
  exact ⟨h2, h3, fun z hz => by have := h1 z hz; omega⟩
theorem confD_lay {l : List Int} (h : cmay l = true) : confD (confL l) = some l := by
  obtain ⟨_, h7, hz⟩ := cmay_small h
  have hc : countS 7 (confL l, 0) = ((confF l, 0), l.length) := by unfold confL; exact countS_lay (by omega) h7 _ (confF_ge l)
  have hr := confR_lay l [] hz
  rw [List.append_nil] at hr
  rw [confD_eq hc hr, if_pos ⟨rfl, h⟩]
end Go.Proofs.YtmhaahcbmdhinaaGreatDoor
namespace Go.Proofs.YtmhaahcbmdhinaaGreatDoor
set_option linter.unusedVariables false
set_option linter.unusedSimpArgs false
/-- What is kept. -/
structure St where
  tm : Int
  vt : Int
  b : Int
  t : Int
  l : List En
  cf : List Int
  sn : List UInt8
def encI (e : En) : List UInt8 := encN (uN e.a) (uN e.b) (uN e.c) e.d
def entF (l : List En) : List UInt8 := (l.map fun e => bytesL (encI e)).flatten
def stL (n : Int) (s : St) : List UInt8 :=
  uintL (uN n) ++ uintL (uN s.tm) ++ uintL (uN s.vt) ++ uintL (uN s.b) ++ uintL (uN s.t) ++ bytesL (confL s.cf) ++ bytesL s.sn ++ uintL s.l.length ++ entF s.l
def St.may (s : St) : Bool :=
  lmay s.b s.t s.l && cmay s.cf && (s.l.all fun e => !rbad e.c e.d) && decide (lstB s.t s.l ≤ s.tm) && decide (s.tm ≤ 1099511627776) && decide (0 ≤ s.vt) && decide (s.vt ≤ 64)
theorem smay_st (tm vt b t : Int) (L : List Er) (cf : List Int) (sn : List UInt8) : smay tm vt b t L cf = St.may ⟨tm, vt, b, t, L.map en, cf, sn⟩ := by
  unfold smay St.may rdok
  simp only [List.all_map]
  rfl
/-- So many entries off what is read. -/
def listN : Option EnS → RdS → RdS × Option (List EnS) → RdS × Option (List EnS)
  | none, s, _ => (s, none)
  | some e, _, r => (r.1, r.2.map (e :: ·))
def listS : Nat → RdS → RdS × Option (List EnS)
  | 0, s => (s, some [])
  | m + 1, s => listN (entD (bytesS 4200 s).2) (bytesS 4200 s).1 (listS m (bytesS 4200 s).1)
theorem listS_zero (s : RdS) : listS 0 s = (s, some []) := rfl
theorem listS_succ (m : Nat) (s : RdS) : listS (m + 1) s = listN (entD (bytesS 4200 s).2) (bytesS 4200 s).1 (listS m (bytesS 4200 s).1) := rfl
theorem listS_none {m : Nat} {s s' : RdS} {d : List UInt8} (h : bytesS 4200 s = (s', d)) (hd : entD d = none) : listS (m + 1) s = (s', none) := by simp only [listS_succ, h, hd, listN]
theorem listS_some {m : Nat} {s s' : RdS} {d : List UInt8} {e : EnS} (h : bytesS 4200 s = (s', d)) (hd : entD d = some e) : listS (m + 1) s = ((listS m s').1, (listS m s').2.map (e :: ·)) := by simp only [listS_succ, h, hd, listN]
def ofS (x : EnS) : En := ⟨x.1, x.2.1, x.2.2.1, x.2.2.2⟩
def toS (e : En) : EnS := (e.a.toNat, e.b.toNat, e.c.toNat, e.d)
/-- What bytes tell, all read: where it ends, the five numbers, the members, the text, the entries. -/
structure Raw where
  n : Nat
  tm : Nat
  vt : Nat
  b : Nat
  t : Nat
  x : List UInt8
  sn : List UInt8
  es : Option (List EnS)
def stS (l : List UInt8) : RdS × Raw :=
  let a0 := uintS 1099511627776 (l, 0)
  let a1 := uintS 1099511627776 a0.1
  let a2 := uintS 1099511627776 a1.1
  let a3 := uintS 1099511627776 a2.1
  let a4 := uintS 1099511627776 a3.1
  let a5 := bytesS 512 a4.1
  let a6 := bytesS 1048576 a5.1
  let a7 := countS 4096 a6.1
  let a8 := listS a7.2 a7.1
  (a8.1, ⟨a0.2, a1.2, a2.2, a3.2, a4.2, a5.2, a6.2, a8.2⟩)
theorem stS_eq {l x sn : List UInt8} {s0 s1 s2 s3 s4 s5 s6 s7 s8 : RdS} {n tm vt b t m : Nat} {es : Option (List EnS)} (h0 : uintS 1099511627776 (l, 0) = (s0, n)) (h1 : uintS 1099511627776 s0 = (s1, tm)) (h2 : uintS 1099511627776 s1 = (s2, vt)) (h3 : uintS 1099511627776 s2 = (s3, b)) (h4 : uintS 1099511627776 s3 = (s4, t))
    (h5 : bytesS 512 s4 = (s5, x)) (h6 : bytesS 1048576 s5 = (s6, sn)) (h7 : countS 4096 s6 = (s7, m)) (h8 : listS m s7 = (s8, es)) : stS l = (s8, ⟨n, tm, vt, b, t, x, sn, es⟩) := by
  unfold stS; simp only [h0, h1, h2, h3, h4, h5, h6, h7, h8]
def finS (k : Int) (n : Nat) (f : List EnS → List Int → St) : Option (List EnS) → Option (List Int) → Option (Nat × St)
  | some es, some cf => if k = 0 ∧ 1 ≤ n ∧ (f es cf).may = true then some (n, f es cf) else none
  | _, _ => none
theorem finS_some (k : Int) (n : Nat) (f : List EnS → List Int → St) (es : List EnS) (cf : List Int) : finS k n f (some es) (some cf) = if k = 0 ∧ 1 ≤ n ∧ (f es cf).may = true then some (n, f es cf) else none := rfl
theorem finS_es (k : Int) (n : Nat) (f : List EnS → List Int → St) (o : Option (List Int)) : finS k n f none o = none := by cases o <;> rfl
theorem finS_cf (k : Int) (n : Nat) (f : List EnS → List Int → St) (o : Option (List EnS)) : finS k n f o none = none := by cases o <;> rfl
def Raw.st (r : Raw) (es : List EnS) (cf : List Int) : St := ⟨r.tm, r.vt, r.b, r.t, es.map ofS, cf, r.sn⟩
def Raw.fin (r : Raw) (s : RdS) : Option (Nat × St) := finS (doneS s) r.n r.st r.es (confD r.x)
theorem Raw.fin_eq {r : Raw} {s : RdS} {oe : Option (List EnS)} {oc : Option (List Int)} (h1 : r.es = oe) (h2 : confD r.x = oc) : r.fin s = finS (doneS s) r.n r.st oe oc := by unfold Raw.fin; rw [h1, h2]
def stD (l : List UInt8) : Option (Nat × St) := (stS l).2.fin (stS l).1
theorem stD_eq {l : List UInt8} {s : RdS} {r : Raw} (h : stS l = (s, r)) : stD l = r.fin s := by unfold stD; rw [h]
/-- An entry that may be. -/
def EnOk (e : En) : Prop := 1 ≤ e.a ∧ e.a ≤ 1099511627776 ∧ 1 ≤ e.b ∧ e.b ≤ 1099511627776 ∧ 0 ≤ e.c ∧ e.c ≤ 2 ∧ e.d.length ≤ 4096
theorem rgt_mem {ix : Int} : ∀ {tm : Int} {i : Nat} {l : List En}, rgt ix tm i l = true → ∀ e ∈ l, EnOk e := by
  intro tm i l
  induction l generalizing tm i with
  | nil => intro _ e he; cases he
  | cons x l ih =>
    intro h e he
    rw [rgt, Bool.and_eq_true] at h
    rcases List.mem_cons.1 he with rfl | he
    · obtain ⟨h1, _, h2, _, h3, h4, h5, h6, h7⟩ := okE_iff.1 h.1
      exact ⟨h1, h2, h3, h4, h5, h6, h7⟩
    · exact ih h.2 e he
theorem St.may_iff {s : St} (h : s.may = true) : lmay s.b s.t s.l = true ∧ cmay s.cf = true ∧ (0 ≤ s.b ∧ s.b ≤ 1099511627776 ∧ 0 ≤ s.t ∧ s.t ≤ 1099511627776) ∧ s.l.length ≤ 4096 ∧ (∀ e ∈ s.l, EnOk e) ∧ 0 ≤ s.tm ∧ s.tm ≤ 1099511627776 ∧ 0 ≤ s.vt ∧ s.vt ≤ 64 := by
  unfold St.may at h
  simp only [Bool.and_eq_true, decide_eq_true_eq] at h
  obtain ⟨⟨⟨⟨⟨⟨h1, h2⟩, h3⟩, h4⟩, h5⟩, h6⟩, h7⟩ := h
  have hm := h1
  unfold lmay at h1
  simp only [Bool.and_eq_true, Bool.or_eq_true, decide_eq_true_eq] at h1
  have hok := rgt_mem h1.2
  have hb : 0 ≤ s.b ∧ s.b ≤ 1099511627776 ∧ 0 ≤ s.t ∧ s.t ≤ 1099511627776 := by
    rcases h1.1.1 with ⟨h8, h9⟩ | h8 <;> omega
  refine ⟨hm, h2, hb, h1.1.2, hok, ?_, h5, h6, h7⟩
  rcases Nat.eq_zero_or_pos s.l.length with h0 | h0
  · have : s.l = [] := List.length_eq_zero_iff.1 h0
    rw [this] at h4
    simp [lstB] at h4
    omega
  · obtain ⟨e, he, _, h9⟩ := lstA_len (b := 0) h0
    have := hok e (List.mem_of_getElem? he)
    rw [h9] at h4
    unfold EnOk at this
    omega
theorem uN_toNat {z : Int} (h : 0 ≤ z) (h2 : z ≤ 1099511627776) : uN z = z.toNat := by
  have := uN_nat z.toNat (by omega)
  rwa [Int.toNat_of_nonneg h] at this
theorem encI_ok {e : En} (h : EnOk e) : encI e = encN e.a.toNat e.b.toNat e.c.toNat e.d := by
  unfold EnOk at h
  unfold encI
  rw [uN_toNat (by omega) (by omega), uN_toNat (by omega) (by omega), uN_toNat (by omega) (by omega)]
theorem entD_ok {e : En} (h : EnOk e) : entD (encI e) = some (toS e) := by
  rw [encI_ok h]
  unfold EnOk at h
  exact entD_lay (by omega) (by omega) (by omega) (by omega) (by omega) (by omega)
theorem ofS_toS {e : En} (h : EnOk e) : ofS (toS e) = e := by
  unfold EnOk at h
  cases e
  simp only [ofS, toS] at *
  congr <;> omega
theorem bytesL_len (d : List UInt8) (h : d.length < 18446744073709551616) : (bytesL d).length ≤ d.length + 22 := by
  have := dec_len h
  simp [bytesL]
  omega
theorem encN_len (a b c : Nat) (d : List UInt8) (ha : a < 18446744073709551616) (hb : b < 18446744073709551616) (hc : c < 18446744073709551616) (hd : d.length < 18446744073709551616) : (encN a b c d).length ≤ d.length + 88 := by
  have h1 := uintL_le a ha
  have h2 := uintL_le b hb
  have h3 := uintL_le c hc
  have h4 := bytesL_len d hd
  simp only [encN, List.length_append, List.length_nil]
  omega
theorem encI_len (e : En) (hd : e.d.length < 18446744073709551616) : (encI e).length ≤ e.d.length + 88 := encN_len _ _ _ _ (uN_lt _) (uN_lt _) (uN_lt _) hd
theorem listS_lay : ∀ (l : List En) (r : List UInt8), (∀ e ∈ l, EnOk e) → listS l.length (entF l ++ r, 0) = ((r, 0), some (l.map toS))
  | [], r, _ => by simp [listS_zero, entF]
  | e :: l, r, h => by
    have he := h e (by simp)
    have hd : e.d.length ≤ 4096 := he.2.2.2.2.2.2
    have hl := encI_len e (by omega)
    have h1 : entF (e :: l) ++ r = bytesL (encI e) ++ (entF l ++ r) := by simp [entF]
    rw [List.length_cons, h1, listS_some (bytesS_lay (by omega) (by omega) _) (entD_ok he), listS_lay l r fun x hx => h x (List.mem_cons_of_mem _ hx)]
    rfl
theorem entF_ge : ∀ (l : List En), l.length ≤ (entF l).length
  | [] => by simp
  | e :: l => by
    have := entF_ge l
    have h2 : 1 ≤ (bytesL (encI e)).length := by simp [bytesL]
    simp only [entF, List.map_cons, List.flatten_cons, List.length_append, List.length_cons] at this ⊢
    omega
theorem stS_lay {n : Int} {s : St} (h : s.may = true) (hn : 0 ≤ n) (hn2 : n ≤ 1099511627776) (hs : s.sn.length ≤ 1048576) : stS (stL n s) = (([], 0), ⟨n.toNat, s.tm.toNat, s.vt.toNat, s.b.toNat, s.t.toNat, confL s.cf, s.sn, some (s.l.map toS)⟩) := by
  obtain ⟨h1, h2, h3, h4, h5, h6, h7, h8, h9⟩ := St.may_iff h
  have hc : (confL s.cf).length ≤ 176 := by
    have := confF_le s.cf
    have h10 := (cmay_small h2).2.1
    have h11 := uintL_le s.cf.length (by omega)
    unfold confL
    rw [List.length_append]
    omega
  have hl := listS_lay s.l [] h5
  rw [List.append_nil] at hl
  have e : stL n s = uintL n.toNat ++ (uintL s.tm.toNat ++ (uintL s.vt.toNat ++ (uintL s.b.toNat ++ (uintL s.t.toNat ++ (bytesL (confL s.cf) ++ (bytesL s.sn ++ (uintL s.l.length ++ entF s.l))))))) := by
    unfold stL
    rw [uN_toNat hn hn2, uN_toNat h6 h7, uN_toNat h8 (by omega), uN_toNat h3.1 h3.2.1, uN_toNat h3.2.2.1 h3.2.2.2]
    simp only [List.append_assoc]
  rw [e]
  exact stS_eq (uintS_lay (by omega) (by omega) _) (uintS_lay (by omega) (by omega) _) (uintS_lay (by omega) (by omega) _) (uintS_lay (by omega) (by omega) _) (uintS_lay (by omega) (by omega) _) (bytesS_lay (by omega) (by omega) _) (bytesS_lay (by omega) (by omega) _) (countS_lay (by omega) h4 _ (entF_ge _)) hl
theorem map_ofS {l : List En} (h : ∀ e ∈ l, EnOk e) : (l.map toS).map ofS = l := by
  rw [List.map_map]
  conv => rhs; rw [← List.map_id l]
  exact List.map_congr_left fun e he => ofS_toS (h e he)
/-- What is laid down is read as it was. -/
theorem stD_lay {n : Int} {s : St} (h : s.may = true) (hn : 1 ≤ n) (hn2 : n ≤ 1099511627776) (hs : s.sn.length ≤ 1048576) : stD (stL n s) = some (n.toNat, s) := by
  obtain ⟨h1, h2, h3, h4, h5, h6, h7, h8, h9⟩ := St.may_iff h
  rw [stD_eq (stS_lay h (by omega) hn2 hs), Raw.fin_eq rfl (confD_lay h2), finS_some]
  have e : Raw.st ⟨n.toNat, s.tm.toNat, s.vt.toNat, s.b.toNat, s.t.toNat, confL s.cf, s.sn, some (s.l.map toS)⟩ (s.l.map toS) s.cf = s := by
    unfold Raw.st
    dsimp only
    rw [map_ofS h5, Int.toNat_of_nonneg h6, Int.toNat_of_nonneg h8, Int.toNat_of_nonneg h3.1, Int.toNat_of_nonneg h3.2.2.1]
  rw [e]
  exact if_pos ⟨rfl, by show 1 ≤ n.toNat; omega, h⟩
/-- What may be is told apart by its bytes. -/
theorem stL_inj {n : Int} {s s' : St} (h : s.may = true) (h' : s'.may = true) (hn : 1 ≤ n) (hn2 : n ≤ 1099511627776) (hs : s.sn.length ≤ 1048576) (hs' : s'.sn.length ≤ 1048576) (he : stL n s = stL n s') : s = s' := by
  have h1 := stD_lay h hn hn2 hs
  have h2 := stD_lay h' hn hn2 hs'
  rw [he, h2] at h1
  exact (congrArg Prod.snd (Option.some.inj h1)).symm
def stR (s : St) : List UInt8 := uintL (uN s.tm) ++ (uintL (uN s.vt) ++ (uintL (uN s.b) ++ (uintL (uN s.t) ++ (bytesL (confL s.cf) ++ (bytesL s.sn ++ (uintL s.l.length ++ entF s.l))))))
theorem stL_eq (n : Int) (s : St) : stL n s = uintL (uN n) ++ stR s := by
  unfold stL stR
  simp only [List.append_assoc]
theorem stL_iff {s s' : St} {n m : Int} : stL n s = stL n s' ↔ stL m s = stL m s' := by
  rw [stL_eq, stL_eq, stL_eq, stL_eq, List.append_cancel_left_eq, List.append_cancel_left_eq]
end Go.Proofs.YtmhaahcbmdhinaaGreatDoor
