/- Words for tollbarlaw14.ReadOnce: triples, the queue that is kept. -/
import Derived.Test.YtodjjcnidgmkmaaSure
import Derived.Deep.DeepCutAuto
namespace Go.Proofs.Ytodjjcnidgmkmaa
open Go.RowKit
set_option linter.unusedVariables false
set_option linter.unusedSimpArgs false
structure Tr where
  a : Int
  b : Int
  c : Int
def trc (x : Tr) : List Value := [.int .i64 x.a, .int .i64 x.b, .int .i64 x.c]
theorem trc_len (x : Tr) : (trc x).length = 3 := rfl
def toTr (r : List Int) : Tr := ⟨r.getD 0 0, r.getD 1 0, r.getD 2 0⟩
theorem flat_toTr (L : List (List Int)) (h : ∀ r ∈ L, r.length = 3) : flat ii L = flat trc (L.map toTr) := by
  induction L with
  | nil => rfl
  | cons r L ih =>
    rw [List.map_cons, flat_cons, flat_cons, ih (fun r' hr' => h r' (by simp [hr']))]
    congr 1
    match r, h r (by simp) with
    | [a, b, c], _ => rfl
theorem tr_cells {w : World} {ok : Nat → Prop} {n : Nat} {A : Option Addr} {l : List Tr} (h : Rd w ok 3 A n (flat trc l)) {j : Nat} (hj : j < n) : ∃ b o x, A = some ⟨b, o, none⟩ ∧ ok b ∧ b < w.heap.size ∧ l[j]? = some x ∧
    w.cell? ⟨b, o + j * 3, none⟩ = some (.int .i64 x.a) ∧ w.cell? ⟨b, o + j * 3 + 1, none⟩ = some (.int .i64 x.b) ∧ w.cell? ⟨b, o + j * 3 + 2, none⟩ = some (.int .i64 x.c) := by
  obtain ⟨b, o, x, hA, hb, hlt, hx, hc⟩ := h.fat trc_len (by omega) hj
  exact ⟨b, o, x, hA, hb, hlt, hx, hc 0 _ rfl, hc 1 _ rfl, hc 2 _ rfl⟩
theorem quMay_left {lim : Int} {l : List It} (p : It → Bool) (h : quMay lim l = true) : quMay lim (leftOf p l) = true := by
  unfold quMay at *
  simp only [Bool.and_eq_true, decide_eq_true_eq, List.all_eq_true] at *
  obtain ⟨⟨⟨h1, h2⟩, h3⟩, h4⟩ := h
  have hl := left_out_length p l
  refine ⟨⟨⟨h1, h2⟩, by omega⟩, fun x hx => h4 x ?_⟩
  unfold leftOf at hx
  exact (List.mem_filter.1 hx).1
theorem quMay_snoc {lim : Int} {l : List It} {x : It} (h : quMay lim l = true) (hx : itMay x = true) (hl : (l.length : Int) < lim) : quMay lim (l ++ [x]) = true := by
  unfold quMay at *
  simp only [Bool.and_eq_true, decide_eq_true_eq, List.all_eq_true] at *
  obtain ⟨⟨⟨h1, h2⟩, h3⟩, h4⟩ := h
  refine ⟨⟨⟨h1, h2⟩, by simp; omega⟩, fun y hy => ?_⟩
  rcases List.mem_append.1 hy with hy | hy
  · exact h4 y hy
  · obtain rfl := List.mem_singleton.1 hy
    exact hx
theorem quMay_le {lim : Int} {l : List It} (h : quMay lim l = true) : (l.length : Int) ≤ lim := by
  unfold quMay at h
  simp only [Bool.and_eq_true, decide_eq_true_eq] at h
  omega
structure OInv (w : World) (ql : List It) (N M : Nat) (Aq : Option Addr) (nq cq : Nat) (wr : World) : Prop where
  bx : Bx wr w.heap.size #[.int .i64 50, .slice Aq nq cq]
  rd : Rd wr (w.heap.size + 1 ≤ ·) 4 Aq nq (flat itc ql)
  may : quMay 50 ql = true
  cnt : M + ql.length = N
  be : Below w.heap.size w wr
theorem OInv.len {w : World} {ql : List It} {N M : Nat} {Aq : Option Addr} {nq cq : Nat} {wr : World} (h : OInv w ql N M Aq nq cq wr) : ql.length = nq ∧ nq ≤ 50 ∧ M + nq = N := by
  have h1 := h.rd.flen itc_len (by omega)
  have h2 := quMay_le h.may
  have h3 := h.cnt
  omega
theorem OInv.below {w : World} {ql : List It} {N M : Nat} {Aq : Option Addr} {nq cq : Nat} {wr w1 : World} (h : OInv w ql N M Aq nq cq wr) (hb : Below wr.heap.size wr w1) : OInv w ql N M Aq nq cq w1 :=
  ⟨h.bx.below hb, h.rd.below hb, h.may, h.cnt, h.be.trans (hb.mono h.be.size)⟩
/-- Another queue is laid into the place. -/
theorem OInv.put {w : World} {ql ql' : List It} {N M N' M' : Nat} {Aq A' : Option Addr} {nq cq n' c' : Nat} {wr : World} (h : OInv w ql N M Aq nq cq wr) (hr : Rd wr (w.heap.size + 1 ≤ ·) 4 A' n' (flat itc ql')) (hm : quMay 50 ql' = true) (hc : M' + ql'.length = N') :
    OInv w ql' N' M' A' n' c' ((wr.setCell ⟨w.heap.size, 0, none⟩ (.int .i64 50)).setCell ⟨w.heap.size, 1, none⟩ (.slice A' n' c')) :=
  ⟨(h.bx.set 0 _).set 1 _, (hr.setCell (by show ¬ w.heap.size + 1 ≤ w.heap.size; omega) _).setCell (by show ¬ w.heap.size + 1 ≤ w.heap.size; omega) _, hm, hc, (h.be.setCell (by show w.heap.size ≤ w.heap.size; omega) _).setCell (by show w.heap.size ≤ w.heap.size; omega) _⟩
def okB (z o1 o2 : Int) (L : List It) : Bool := L.any fun y => y.k == z && decide (y.r ≤ o1) && decide (y.i ≤ o2)
theorem okB_snoc (z o1 o2 : Int) (L : List It) (y : It) : okB z o1 o2 (L ++ [y]) = (okB z o1 o2 L || (y.k == z && decide (y.r ≤ o1) && decide (y.i ≤ o2))) := by simp [okB]
theorem okB_of_out {t o1 o2 z : Int} {L : List It} (h : z ∈ outOf (isTake t o1 o2) L) : okB z o1 o2 L = true := by
  unfold outOf at h
  obtain ⟨y, hy, rfl⟩ := List.mem_map.1 h
  obtain ⟨h1, h2⟩ := List.mem_filter.1 hy
  unfold okB
  rw [List.any_eq_true]
  refine ⟨y, h1, ?_⟩
  simp only [isTake, Bool.and_eq_true, beq_iff_eq, decide_eq_true_eq] at h2
  simp only [Bool.and_eq_true, beq_iff_eq, decide_eq_true_eq]
  exact ⟨⟨trivial, h2.1.2⟩, h2.2⟩
end Go.Proofs.Ytodjjcnidgmkmaa
