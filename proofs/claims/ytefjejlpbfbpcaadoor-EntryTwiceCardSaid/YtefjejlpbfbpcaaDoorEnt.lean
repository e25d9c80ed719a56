/- Rows of three integers and a byte slice (entries, items, acts): cells, and what comes in. -/
import Derived.Test.YtefjejlpbfbpcaaDoorFlat
namespace Go.Proofs.YtefjejlpbfbpcaaDoor
open Go.ChangeShapes Go.WideShapes Go.ChangeAt Go.RowKit Go.Joins Go.Deep
set_option linter.unusedVariables false
set_option linter.unusedSimpArgs false
theorem rd_of_rows {α : Type} {enc : α → List Value} {k : Nat} (hk : ∀ x, (enc x).length = k) (hpos : 0 < k) {w : World} {A : Option Addr} {n : Nat} (Q : α → Prop)
    (key : ∀ i, i < n → ∃ x : α, Q x ∧ ∃ b o, A = some ⟨b, o, none⟩ ∧ ∀ j u, (enc x)[j]? = some u → w.cell? ⟨b, o + i * k + j, none⟩ = some u) :
    ∃ L : List α, Rd w T k A n (flat enc L) ∧ L.length = n ∧ ∀ x ∈ L, Q x := by
  have all : ∀ m, m ≤ n → ∃ L : List α, L.length = m ∧ (∀ x ∈ L, Q x) ∧ ∀ i x, L[i]? = some x → ∃ b o, A = some ⟨b, o, none⟩ ∧ ∀ j u, (enc x)[j]? = some u → w.cell? ⟨b, o + i * k + j, none⟩ = some u := by
    intro m
    induction m with
    | zero => exact fun _ => ⟨[], rfl, by simp, by simp⟩
    | succ m ih =>
      intro hm
      obtain ⟨L, hl, h1, h2⟩ := ih (by omega)
      obtain ⟨x, hx1, hx2⟩ := key m (by omega)
      refine ⟨L ++ [x], by simp [hl], ?_, ?_⟩
      · intro y hy
        rcases List.mem_append.1 hy with h' | h'
        · exact h1 y h'
        · obtain rfl := List.mem_singleton.1 h'
          exact hx1
      · intro i y hi
        by_cases hlt : i < L.length
        · rw [List.getElem?_append_left hlt] at hi
          exact h2 i y hi
        · rw [List.getElem?_append_right (by omega)] at hi
          have e0 : i - L.length = 0 := by
            rcases Nat.eq_zero_or_pos (i - L.length) with h' | h'
            · exact h'
            · rw [List.getElem?_eq_none (by simp; omega)] at hi
              cases hi
          rw [e0] at hi
          obtain rfl := Option.some.inj hi
          obtain rfl : i = m := by omega
          exact hx2
  obtain ⟨L, hL, hL1, hL2⟩ := all n (Nat.le_refl n)
  have hlen : (flat enc L).length = n * k := by rw [flat_length hk, hL]
  refine ⟨L, ⟨hlen, fun hn => ?_⟩, hL, hL1⟩
  obtain ⟨x0, _, b, o, hA, _⟩ := key 0 hn
  refine ⟨_, hA, trivial, fun j u hu => ?_⟩
  have hjl : j < n * k := by rw [← hlen]; exact (List.getElem?_eq_some_iff.1 hu).1
  have hq : j / k < n := (Nat.div_lt_iff_lt_mul hpos).2 hjl
  have hdm : j = (j / k) * k + j % k := by rw [Nat.mul_comm]; exact (Nat.div_add_mod j k).symm
  have hx := List.getElem?_eq_getElem (l := L) (i := j / k) (by omega)
  rw [hdm, flat_get hk hx (Nat.mod_lt _ hpos)] at hu
  obtain ⟨b', o', hA', hc⟩ := hL2 (j / k) _ hx
  rw [hA] at hA'
  injection hA' with hA'
  injection hA' with e1 e2 _
  subst e1 e2
  have := hc _ u hu
  rw [Nat.add_assoc, ← hdm] at this
  have hadd : (⟨b, o, none⟩ : Addr).add j = ⟨b, o + j, none⟩ := by
    unfold Addr.add
    split
    · rename_i h0; rw [h0, Nat.add_zero]
    · rfl
  rw [hadd]
  exact this
/-- A row: three numbers, and bytes that lie elsewhere. -/
structure Er where
  a : Int
  b : Int
  c : Int
  A : Option Addr
  n : Nat
  m : Nat
  d : List UInt8
def ecell (x : Er) : List Value := [.int .i64 x.a, .int .i64 x.b, .int .i64 x.c, .slice x.A x.n x.m]
theorem ecell_len (x : Er) : (ecell x).length = 4 := rfl
theorem er_cells {w : World} {ok : Nat → Prop} {n : Nat} {A : Option Addr} {l : List Er} (h : Rd w ok 4 A n (flat ecell l)) {j : Nat} (hj : j < n) : ∃ b o x, A = some ⟨b, o, none⟩ ∧ ok b ∧ b < w.heap.size ∧ l[j]? = some x ∧
    w.cell? ⟨b, o + j * 4, none⟩ = some (.int .i64 x.a) ∧ w.cell? ⟨b, o + j * 4 + 1, none⟩ = some (.int .i64 x.b) ∧ w.cell? ⟨b, o + j * 4 + 2, none⟩ = some (.int .i64 x.c) ∧ w.cell? ⟨b, o + j * 4 + 3, none⟩ = some (.slice x.A x.n x.m) := by
  obtain ⟨b, o, x, hA, hb, hlt, hx, hc⟩ := h.fat ecell_len (by omega) hj
  exact ⟨b, o, x, hA, hb, hlt, hx, hc 0 _ rfl, hc 1 _ rfl, hc 2 _ rfl, hc 3 _ rfl⟩
/-- The bytes of the rows can be read. -/
def Dat (w : World) (l : List Er) : Prop := ∀ x ∈ l, Rd w T 1 x.A x.n (bs x.d) ∧ x.n ≤ x.m ∧ x.m ≤ maxLen
theorem Dat.below {w w' : World} {l : List Er} (h : Dat w l) (hb : Below w.heap.size w w') : Dat w' l := fun x hx => ⟨(h x hx).1.below hb, (h x hx).2⟩
def W64 (x : Er) : Prop := I64 x.a ∧ I64 x.b ∧ I64 x.c
theorem in_ents {H : Type} {enc : TypeId × Value → H} {P : Program} {w : World} {base : Nat} {spare : Nat → Bool} {held : Bool} {fuel : Nat} {v : Value} {x : DataW H × List MemPlace} {t e e3 : TypeId} {f0 f1 f2 f3 : Field}
    (ht : P.underlying t = some (.slice e)) (he : P.underlying e = some (.struct #[f0, f1, f2, f3])) (hone : oneCellFields P #[f0, f1, f2, f3] = true) (hC : P.cellsOf e = 4)
    (h0 : P.underlying f0.type = some (.int .i64)) (h1 : P.underlying f1.type = some (.int .i64)) (h2 : P.underlying f2.type = some (.int .i64)) (h3 : P.underlying f3.type = some (.slice e3)) (h4 : P.underlying e3 = some (.int .u8)) (h5 : P.cellsOf e3 = 1)
    (h : DataW.trod enc P w base spare held fuel t [v] = some x) :
    ∃ A n c, ∃ L : List Er, v = .slice A n c ∧ Rd w T 4 A n (flat ecell L) ∧ L.length = n ∧ n ≤ c ∧ c ≤ maxLen ∧ (A = none → n = 0 ∧ c = 0) ∧ Dat w L ∧ ∀ y ∈ L, W64 y := by
  obtain ⟨A, n, c, hv, hnc, hcm, haz, hrow⟩ := in_rows ht he hone hC (by simp) h
  obtain ⟨L, k1, k2, k3⟩ := rd_of_rows (A := A) (n := n) (w := w) ecell_len (by omega) (fun y => (Rd w T 1 y.A y.n (bs y.d) ∧ y.n ≤ y.m ∧ y.m ≤ maxLen) ∧ W64 y) (by
    intro i hi
    obtain ⟨b, o, cs, m, hA, hl, hc, hf⟩ := hrow i hi
    obtain ⟨u0, y0, g0, q0⟩ := hf 0 _ rfl
    obtain ⟨u1, y1, g1, q1⟩ := hf 1 _ rfl
    obtain ⟨u2, y2, g2, q2⟩ := hf 2 _ rfl
    obtain ⟨u3, y3, g3, q3⟩ := hf 3 _ rfl
    obtain ⟨z0, rfl, w0⟩ := in_int h0 q0
    obtain ⟨z1, rfl, w1⟩ := in_int h1 q1
    obtain ⟨z2, rfl, w2⟩ := in_int h2 q2
    obtain ⟨B, m', d, l, rfl, hr, hmd, hdm, _⟩ := in_bytes h3 h4 h5 q3
    refine ⟨⟨z0, z1, z2, B, m', d, l⟩, ⟨⟨hr, hmd, hdm⟩, i64_of_wf w0, i64_of_wf w1, i64_of_wf w2⟩, b, o, hA, fun j u hj => ?_⟩
    match j, hj with
    | 0, hj => obtain rfl := Option.some.inj hj; exact hc 0 _ g0
    | 1, hj => obtain rfl := Option.some.inj hj; exact hc 1 _ g1
    | 2, hj => obtain rfl := Option.some.inj hj; exact hc 2 _ g2
    | 3, hj => obtain rfl := Option.some.inj hj; exact hc 3 _ g3)
  exact ⟨A, n, c, L, hv, k1, k2, hnc, hcm, haz, fun y hy => (k3 y hy).1, fun y hy => (k3 y hy).2⟩
end Go.Proofs.YtefjejlpbfbpcaaDoor
