/- A region that draws its order, some of whose operations load what its last operation stores: a condition S on the world holds from operation to operation, but need not hold behind the last one. (After the library's OrdersHeld, whose words YieldsIf and wpOp_putIf serve here.)
   Walk of the document's Encode. (Printed by mkencr.py.)
   Walk of the document's Encode of an entry, at any ints. (Printed by mkencu.py.)
   Plain law: what is kept, as bytes, and read again: no program in sight.
   Plain law: what is kept, with its number, as bytes, and read again: no program in sight. -/
import Derived.Test.YtmhaahcbmdhinaaGreatDoorKW8
import Derived.OrdersHeld
import Derived.Test.YtmhaahcbmdhinaaGreatDoorKW2
import Derived.Test.YtmhaahcbmdhinaaGreatDoorKW3
import Derived.Test.YtmhaahcbmdhinaaGreatDoorKW7
namespace Go.Proofs.YtmhaahcbmdhinaaGreatDoor
set_option linter.unusedVariables false
section
variable {P : Program} {ops : Array Oper} {Q : Exit → Act → World → Prop} {md : Region.Mode} {S : World → Prop}
/-- Whatever order is picked from here on; S holds behind every operation that is carried out, but for number n. -/
def wpAnyM (P : Program) (md : Region.Mode) (ops : Array Oper) (Q : Exit → Act → World → Prop) (S : World → Prop) (n : Nat) : Nat → Array Bool → Act → World → Prop
  | 0, listed, a, w => Region.ready md ops listed = [] ∧ Q .normal a w
  | fuel + 1, listed, a, w => (Region.ready md ops listed = [] → Q .normal a w) ∧
    ∀ i ∈ Region.ready md ops listed, wpOp P ops Q i (fun a' w' => (i ≠ n → S w') ∧ wpAnyM P md ops Q S n fuel (listed.setIfInBounds i true) a' w') a w
theorem wpAny_of_M {n : Nat} : ∀ (fuel : Nat) (listed : Array Bool) (a : Act) (w : World), wpAnyM P md ops Q S n fuel listed a w → wpAny P md ops Q fuel listed a w
  | 0, _, _, _, h => h
  | fuel + 1, _, _, _, h => ⟨h.1, fun i hi => wpOp_mono (fun a' w' h' => wpAny_of_M fuel _ a' w' h'.2) (h.2 i hi)⟩
theorem wpAnyM_first {n i : Nat} {oi : Oper} {v : Value} (hi : ops[i]? = some oi) (hsel : ∀ (j : Nat) (o : Oper) cs b, ops[j]? = some o → o.op ≠ .select cs b)
    (hs : Region.sinkB md ops n = true) (hn : n + 1 = ops.size) (hin : i < n)
    (hQ : ∀ c a w, Q (.panic c) (a.put oi.dst v) w → Q (.panic c) a w) (fuel : Nat) :
    ∀ (listed : Array Bool) (a : Act) (w : World), HeadInv md ops n listed →
      (∀ j oj, ops[j]? = some oj → j ≠ i → listed.getD j true = false → (∀ e ∈ oj.after, Region.binds md e = true → e.on ≠ i) → oi.apart ops oj = true) →
      i ∈ Region.ready md ops listed → YieldsIf P ops S oi v a → S w →
      wpAnyM P md ops Q S n fuel (listed.setIfInBounds i true) (a.put oi.dst v) w → wpAnyM P md ops Q S n (fuel + 1) listed a w := by
  induction fuel with
  | zero =>
    intro listed a w inv _ hr hy hS H
    refine ⟨fun h => (by rw [h] at hr; cases hr), fun j hj => ?_⟩
    by_cases hji : j = i
    · subst hji
      exact hy.wpOp hi hS ⟨fun _ => hS, H⟩
    · have := ready_mono hj hji
      rw [H.1] at this
      cases this
  | succ fuel ih =>
    intro listed a w inv hfree hr hy hS H
    refine ⟨fun h => (by rw [h] at hr; cases hr), fun j hj => ?_⟩
    by_cases hji : j = i
    · subst hji
      exact hy.wpOp hi hS ⟨fun _ => hS, H⟩
    · have h1 := H.2 j (ready_mono hj hji)
      obtain ⟨hjun, oj, hoj, hall⟩ := mem_ready.1 hj
      have hun := (mem_ready.1 hr).1
      have hjn : j ≠ n := fun e => late_n hs (by omega) inv _ i rfl hin hun (e ▸ hj)
      have hjl : j < n := by have := (Array.getElem?_eq_some_iff.1 hoj).1; omega
      have hno : ∀ e ∈ oj.after, Region.binds md e = true → e.on ≠ i := by
        intro e he hb h
        have h2 := hall e he hb
        rw [h, getD_both hun] at h2
        cases h2
      have h2 := wpOp_putIf hoj (hfree j oj hoj hji hjun hno) (fun cs b => hsel i oi cs b hi) (fun cs b => hsel j oj cs b hoj) hQ hy h1
      have hri : i ∈ Region.ready md ops (listed.setIfInBounds j true) := ready_mono hr (Ne.symm hji)
      refine wpOp_mono (fun a' w' h3 => ?_) h2
      obtain ⟨hy3, hS3, H3⟩ := h3
      have hfree' : ∀ k ok, ops[k]? = some ok → k ≠ i → (listed.setIfInBounds j true).getD k true = false → (∀ e ∈ ok.after, Region.binds md e = true → e.on ≠ i) → oi.apart ops ok = true := by
        intro k ok hk hki hku hkn
        refine hfree k ok hk hki ?_ hkn
        by_cases hjk : j = k
        · subst hjk
          exact hjun
        · rwa [getD_set_ne true hjk] at hku
      rw [Array.setIfInBounds_comm _ _ (Ne.symm hji)] at H3
      exact ⟨fun _ => hS3 hjn, ih _ a' w' (inv.set hj hjl) hfree' hri hy3 (hS3 hjn) H3⟩
/-- What has come is closed; number n and those behind it have not come. -/
def invB (md : Region.Mode) (ops : Array Oper) (n : Nat) (listed : Array Bool) : Bool :=
  decide (listed.size = ops.size) && ((List.range ops.size).all fun j => !(listed.getD j false) || (match ops[j]? with
    | none => true
    | some o => o.after.all fun e => !(Region.binds md e) || listed.getD e.on false)) && ((List.range ops.size).all fun t => decide (t < n) || !(listed.getD t true))
theorem inv_of {n : Nat} {listed : Array Bool} (h : invB md ops n listed = true) : HeadInv md ops n listed := by
  simp only [invB, Bool.and_eq_true, decide_eq_true_eq] at h
  obtain ⟨⟨h1, h2⟩, h3⟩ := h
  refine ⟨h1, fun j oj hj hl e he hb => ?_, fun t ht htl => ?_⟩
  · have hjl := (Array.getElem?_eq_some_iff.1 hj).1
    have := List.all_eq_true.1 h2 j (List.mem_range.2 hjl)
    simp only [hj, hl, Bool.not_true, Bool.false_or] at this
    have := Array.all_eq_true'.1 this e he
    simpa [hb] using this
  · have := List.all_eq_true.1 h3 t (List.mem_range.2 htl)
    simp only [Bool.or_eq_true, decide_eq_true_eq] at this
    rcases this with h | h
    · omega
    · simpa using h
/-- Just one may come. -/
theorem wpAnyM_one {n i : Nat} {o : Oper} {fuel : Nat} {listed : Array Bool} {a : Act} {w : World} (hr : Region.ready md ops listed = [i]) (ho : ops[i]? = some o)
    (h : ∀ K : Act → World → Prop, (∀ a w, (i ≠ n → S w) → wpAnyM P md ops Q S n fuel (listed.setIfInBounds i true) a w → K a w) → if Region.wanted o (yielded ops a.tmps) = true then Oper.wp P o a w K Q else K (a.put o.dst undef) w) : wpAnyM P md ops Q S n (fuel + 1) listed a w := by
  refine ⟨fun h0 => (by rw [h0] at hr; cases hr), fun j hj => ?_⟩
  rw [hr] at hj
  obtain rfl := List.mem_singleton.1 hj
  exact wpOp_step ho (fun K hK => h K (fun a w hS hW => hK a w ⟨hS, hW⟩))
/-- One of two may come. -/
theorem wpAnyM_two {n i j : Nat} {o o' : Oper} {fuel : Nat} {listed : Array Bool} {a : Act} {w : World} (hr : Region.ready md ops listed = [i, j]) (ho : ops[i]? = some o) (ho' : ops[j]? = some o')
    (h : ∀ K : Act → World → Prop, (∀ a w, (i ≠ n → S w) → wpAnyM P md ops Q S n fuel (listed.setIfInBounds i true) a w → K a w) → if Region.wanted o (yielded ops a.tmps) = true then Oper.wp P o a w K Q else K (a.put o.dst undef) w)
    (h' : ∀ K : Act → World → Prop, (∀ a w, (j ≠ n → S w) → wpAnyM P md ops Q S n fuel (listed.setIfInBounds j true) a w → K a w) → if Region.wanted o' (yielded ops a.tmps) = true then Oper.wp P o' a w K Q else K (a.put o'.dst undef) w) : wpAnyM P md ops Q S n (fuel + 1) listed a w := by
  refine ⟨fun h0 => (by rw [h0] at hr; cases hr), fun k hk => ?_⟩
  rw [hr] at hk
  rcases List.mem_cons.1 hk with rfl | hk
  · exact wpOp_step ho (fun K hK => h K (fun a w hS hW => hK a w ⟨hS, hW⟩))
  · obtain rfl := List.mem_singleton.1 hk
    exact wpOp_step ho' (fun K hK => h' K (fun a w hS hW => hK a w ⟨hS, hW⟩))
theorem wpAnyM_done {n : Nat} {listed : Array Bool} {a : Act} {w : World} (hr : Region.ready md ops listed = []) (h : Q .normal a w) : ∀ fuel, wpAnyM P md ops Q S n fuel listed a w
  | 0 => ⟨hr, h⟩
  | _ + 1 => ⟨fun _ => h, by rw [hr]; simp⟩
end
end Go.Proofs.YtmhaahcbmdhinaaGreatDoor

namespace Go.Proofs.YtmhaahcbmdhinaaGreatDoor
open Go.RowKit
set_option maxRecDepth 100000
set_option linter.unusedVariables false
set_option linter.unusedSimpArgs false
theorem own_lo {W : World} {B B' : Nat} {e : TypeId} {size n m c : Nat} {A : Option Addr} {xs : List Value} (ho : W.ownsRow B e size (.slice A n c) m xs) (hB : B' ≤ B) : W.ownsRow B' e size (.slice A n c) m xs := by
  refine ⟨ho.1, ?_⟩
  rcases ho.2 with h1 | ⟨g, cap, cur, h1, h2, h4⟩
  · exact .inl h1
  · exact .inr ⟨g, cap, cur, h1, Nat.le_trans hB h2, h4⟩
end Go.Proofs.YtmhaahcbmdhinaaGreatDoor

namespace Go.Proofs.YtmhaahcbmdhinaaGreatDoor
open Go.RowKit
set_option maxRecDepth 100000
set_option linter.unusedVariables false
set_option linter.unusedSimpArgs false
end Go.Proofs.YtmhaahcbmdhinaaGreatDoor

namespace Go.Proofs.YtmhaahcbmdhinaaGreatDoor
set_option linter.unusedVariables false
set_option linter.unusedSimpArgs false
theorem dec_len {u : Nat} (hu : u < 18446744073709551616) : (Lib.decDigits u).length ≤ 20 := dig_size u hu
theorem cmay_small {l : List Int} (h : cmay l = true) : 1 ≤ l.length ∧ l.length ≤ 7 ∧ ∀ z ∈ l, 0 ≤ z ∧ z ≤ 64 := by
  obtain ⟨h1, _, h2, h3⟩ := cmay_iff.1 h
  exact ⟨h2, h3, fun z hz => by have := h1 z hz; omega⟩
end Go.Proofs.YtmhaahcbmdhinaaGreatDoor

namespace Go.Proofs.YtmhaahcbmdhinaaGreatDoor
set_option linter.unusedVariables false
set_option linter.unusedSimpArgs false
/-- What is kept. -/
structure St where
  tm : Int
  vt : Int
  b : Int
  t : Int
  l : List En
  cf : List Int
  sn : List UInt8
def encI (e : En) : List UInt8 := encN (uN e.a) (uN e.b) (uN e.c) e.d
def entF (l : List En) : List UInt8 := (l.map fun e => bytesL (encI e)).flatten
def stL (n : Int) (s : St) : List UInt8 :=
  uintL (uN n) ++ uintL (uN s.tm) ++ uintL (uN s.vt) ++ uintL (uN s.b) ++ uintL (uN s.t) ++ bytesL (confL s.cf) ++ bytesL s.sn ++ uintL s.l.length ++ entF s.l
def St.may (s : St) : Bool :=
  lmay s.b s.t s.l && cmay s.cf && (s.l.all fun e => !rbad e.c e.d) && decide (lstB s.t s.l ≤ s.tm) && decide (s.tm ≤ 1099511627776) && decide (0 ≤ s.vt) && decide (s.vt ≤ 64)
theorem smay_st (tm vt b t : Int) (L : List Er) (cf : List Int) (sn : List UInt8) : smay tm vt b t L cf = St.may ⟨tm, vt, b, t, L.map en, cf, sn⟩ := by
  unfold smay St.may rdok
  simp only [List.all_map]
  rfl
/-- So many entries off what is read. -/
def listN : Option EnS → RdS → RdS × Option (List EnS) → RdS × Option (List EnS)
  | none, s, _ => (s, none)
  | some e, _, r => (r.1, r.2.map (e :: ·))
def listS : Nat → RdS → RdS × Option (List EnS)
  | 0, s => (s, some [])
  | m + 1, s => listN (entD (bytesS 4200 s).2) (bytesS 4200 s).1 (listS m (bytesS 4200 s).1)
def ofS (x : EnS) : En := ⟨x.1, x.2.1, x.2.2.1, x.2.2.2⟩
def toS (e : En) : EnS := (e.a.toNat, e.b.toNat, e.c.toNat, e.d)
/-- What bytes tell, all read: where it ends, the five numbers, the members, the text, the entries. -/
structure Raw where
  n : Nat
  tm : Nat
  vt : Nat
  b : Nat
  t : Nat
  x : List UInt8
  sn : List UInt8
  es : Option (List EnS)
def stS (l : List UInt8) : RdS × Raw :=
  let a0 := uintS 1099511627776 (l, 0)
  let a1 := uintS 1099511627776 a0.1
  let a2 := uintS 1099511627776 a1.1
  let a3 := uintS 1099511627776 a2.1
  let a4 := uintS 1099511627776 a3.1
  let a5 := bytesS 512 a4.1
  let a6 := bytesS 1048576 a5.1
  let a7 := countS 4096 a6.1
  let a8 := listS a7.2 a7.1
  (a8.1, ⟨a0.2, a1.2, a2.2, a3.2, a4.2, a5.2, a6.2, a8.2⟩)
def finS (k : Int) (n : Nat) (f : List EnS → List Int → St) : Option (List EnS) → Option (List Int) → Option (Nat × St)
  | some es, some cf => if k = 0 ∧ 1 ≤ n ∧ (f es cf).may = true then some (n, f es cf) else none
  | _, _ => none
def Raw.st (r : Raw) (es : List EnS) (cf : List Int) : St := ⟨r.tm, r.vt, r.b, r.t, es.map ofS, cf, r.sn⟩
def Raw.fin (r : Raw) (s : RdS) : Option (Nat × St) := finS (doneS s) r.n r.st r.es (confD r.x)
def stD (l : List UInt8) : Option (Nat × St) := (stS l).2.fin (stS l).1
/-- An entry that may be. -/
def EnOk (e : En) : Prop := 1 ≤ e.a ∧ e.a ≤ 1099511627776 ∧ 1 ≤ e.b ∧ e.b ≤ 1099511627776 ∧ 0 ≤ e.c ∧ e.c ≤ 2 ∧ e.d.length ≤ 4096
theorem rgt_mem {ix : Int} : ∀ {tm : Int} {i : Nat} {l : List En}, rgt ix tm i l = true → ∀ e ∈ l, EnOk e := by
  intro tm i l
  induction l generalizing tm i with
  | nil => intro _ e he; cases he
  | cons x l ih =>
    intro h e he
    rw [rgt, Bool.and_eq_true] at h
    rcases List.mem_cons.1 he with rfl | he
    · obtain ⟨h1, _, h2, _, h3, h4, h5, h6, h7⟩ := okE_iff.1 h.1
      exact ⟨h1, h2, h3, h4, h5, h6, h7⟩
    · exact ih h.2 e he
theorem St.may_iff {s : St} (h : s.may = true) : lmay s.b s.t s.l = true ∧ cmay s.cf = true ∧ (0 ≤ s.b ∧ s.b ≤ 1099511627776 ∧ 0 ≤ s.t ∧ s.t ≤ 1099511627776) ∧ s.l.length ≤ 4096 ∧ (∀ e ∈ s.l, EnOk e) ∧ 0 ≤ s.tm ∧ s.tm ≤ 1099511627776 ∧ 0 ≤ s.vt ∧ s.vt ≤ 64 := by
  unfold St.may at h
  simp only [Bool.and_eq_true, decide_eq_true_eq] at h
  obtain ⟨⟨⟨⟨⟨⟨h1, h2⟩, h3⟩, h4⟩, h5⟩, h6⟩, h7⟩ := h
  have hm := h1
  unfold lmay at h1
  simp only [Bool.and_eq_true, Bool.or_eq_true, decide_eq_true_eq] at h1
  have hok := rgt_mem h1.2
  have hb : 0 ≤ s.b ∧ s.b ≤ 1099511627776 ∧ 0 ≤ s.t ∧ s.t ≤ 1099511627776 := by
    rcases h1.1.1 with ⟨h8, h9⟩ | h8 <;> omega
  refine ⟨hm, h2, hb, h1.1.2, hok, ?_, h5, h6, h7⟩
  rcases Nat.eq_zero_or_pos s.l.length with h0 | h0
  · have : s.l = [] := List.length_eq_zero_iff.1 h0
    rw [this] at h4
    simp [lstB] at h4
    omega
  · obtain ⟨e, he, _, h9⟩ := lstA_len (b := 0) h0
    have := hok e (List.mem_of_getElem? he)
    rw [h9] at h4
    unfold EnOk at this
    omega
theorem bytesL_len (d : List UInt8) (h : d.length < 18446744073709551616) : (bytesL d).length ≤ d.length + 22 := by
  have := dec_len h
  simp [bytesL]
  omega
def stR (s : St) : List UInt8 := uintL (uN s.tm) ++ (uintL (uN s.vt) ++ (uintL (uN s.b) ++ (uintL (uN s.t) ++ (bytesL (confL s.cf) ++ (bytesL s.sn ++ (uintL s.l.length ++ entF s.l))))))
end Go.Proofs.YtmhaahcbmdhinaaGreatDoor

