/- Slices of acts: three integers, bytes, numbers. -/
import Derived.Test.YtefhkhocbcnbcaaDoorEnt
import Derived.Test.YtefhkhocbcnbcaaDoorSized
namespace Go.Proofs.YtefhkhocbcnbcaaDoor
open Go.ChangeShapes Go.WideShapes Go.ChangeAt Go.RowKit Go.Joins Go.Deep
set_option linter.unusedVariables false
set_option linter.unusedSimpArgs false
structure Ac where
  a : Int
  b : Int
  c : Int
  A : Option Addr
  n : Nat
  m : Nat
  d : List UInt8
  K : Option Addr
  kn : Nat
  km : Nat
  k : List Int
def acell (x : Ac) : List Value := [.int .i64 x.a, .int .i64 x.b, .int .i64 x.c, .slice x.A x.n x.m, .slice x.K x.kn x.km]
theorem acell_len (x : Ac) : (acell x).length = 5 := rfl
theorem ac_cells {w : World} {ok : Nat → Prop} {n : Nat} {A : Option Addr} {l : List Ac} (h : Rd w ok 5 A n (flat acell l)) {j : Nat} (hj : j < n) : ∃ b o x, A = some ⟨b, o, none⟩ ∧ ok b ∧ b < w.heap.size ∧ l[j]? = some x ∧
    w.cell? ⟨b, o + j * 5, none⟩ = some (.int .i64 x.a) ∧ w.cell? ⟨b, o + j * 5 + 1, none⟩ = some (.int .i64 x.b) ∧ w.cell? ⟨b, o + j * 5 + 2, none⟩ = some (.int .i64 x.c) ∧ w.cell? ⟨b, o + j * 5 + 3, none⟩ = some (.slice x.A x.n x.m) ∧ w.cell? ⟨b, o + j * 5 + 4, none⟩ = some (.slice x.K x.kn x.km) := by
  obtain ⟨b, o, x, hA, hb, hlt, hx, hc⟩ := h.fat acell_len (by omega) hj
  exact ⟨b, o, x, hA, hb, hlt, hx, hc 0 _ rfl, hc 1 _ rfl, hc 2 _ rfl, hc 3 _ rfl, hc 4 _ rfl⟩
/-- What an act's bytes and numbers read as. -/
def AcOk (w : World) (y : Ac) : Prop := (Rd w T 1 y.A y.n (bs y.d) ∧ y.n ≤ y.m ∧ y.m ≤ maxLen) ∧ (Rd w T 1 y.K y.kn (ii y.k) ∧ (∀ z ∈ y.k, I64 z) ∧ y.kn * 8 ≤ reachBytes) ∧ I64 y.a ∧ I64 y.b ∧ I64 y.c
section
variable {H : Type} {enc : TypeId × Value → H} {P : Program} {w : World} {base : Nat} {spare : Nat → Bool} {held : Bool} {fuel : Nat} {v : Value} {t e e3 e4 : TypeId} {f0 f1 f2 f3 f4 : Field} {d : DataW H} {p : List MemPlace}
theorem sized_any {k : IntKind} {A : Option Addr} {n c : Nat} (hu : P.underlying t = some (.slice e)) (he : P.underlying e = some (.int k)) (hc : P.cellsOf e = 1)
    (h : DataW.trod enc P w base spare held fuel t [.slice A n c] = some (d, p)) (hs : Sized P t d) : n * P.bytesOf e ≤ reachBytes := by
  rcases open_ints hu he hc h with ⟨hcs, _⟩ | ⟨a, len, cap, zs, hcs, _, hl, hm, hz, hx, _⟩
  · simp only [List.cons.injEq, Value.slice.injEq, and_true] at hcs
    rw [hcs.2.1, Nat.zero_mul]
    exact Nat.zero_le _
  · simp only [List.cons.injEq, Value.slice.injEq, and_true] at hcs
    simp only [Prod.mk.injEq] at hx
    rw [hx.1] at hs
    have h1 := hs _ (by rw [DataW.weights, hu]; exact List.mem_cons_self ..)
    have h2 : len ≤ zs.length := by rw [hz]; split <;> omega
    have h3 : (lits (H := H) k (zs.take len)).length = len := by simp [lits]; omega
    rw [h3] at h1
    rw [hcs.2.1]
    exact Nat.le_trans (Nat.mul_le_mul_right _ (Nat.le_add_right _ _)) h1
theorem in_acts (ht : P.underlying t = some (.slice e)) (he : P.underlying e = some (.struct #[f0, f1, f2, f3, f4])) (hone : oneCellFields P #[f0, f1, f2, f3, f4] = true) (hC : P.cellsOf e = 5)
    (h0 : P.underlying f0.type = some (.int .i64)) (h1 : P.underlying f1.type = some (.int .i64)) (h2 : P.underlying f2.type = some (.int .i64)) (h3 : P.underlying f3.type = some (.slice e3)) (h4 : P.underlying e3 = some (.int .u8)) (h5 : P.cellsOf e3 = 1)
    (h6 : P.underlying f4.type = some (.slice e4)) (h7 : P.underlying e4 = some (.int .i64)) (h8 : P.cellsOf e4 = 1) (h9 : P.bytesOf e4 = 8)
    (h : DataW.trod enc P w base spare held fuel t [v] = some (d, p)) (hs : Sized P t d) :
    ∃ A n c, ∃ L : List Ac, v = .slice A n c ∧ Rd w T 5 A n (flat acell L) ∧ L.length = n ∧ n ≤ c ∧ c ≤ maxLen ∧ ∀ y ∈ L, AcOk w y := by
  obtain ⟨A, n, c, hv, hnc, hcm, haz, hrow⟩ := in_rows_sized ht he hone hC (by simp) h hs
  obtain ⟨L, k1, k2, k3⟩ := rd_of_rows (A := A) (n := n) (w := w) acell_len (by omega) (fun y => AcOk w y) (by
    intro i hi
    obtain ⟨b, o, cs, m, hA, hl, hc, hf⟩ := hrow i hi
    obtain ⟨u0, y0, g0, q0, -⟩ := hf 0 _ rfl
    obtain ⟨u1, y1, g1, q1, -⟩ := hf 1 _ rfl
    obtain ⟨u2, y2, g2, q2, -⟩ := hf 2 _ rfl
    obtain ⟨u3, y3, g3, q3, -⟩ := hf 3 _ rfl
    obtain ⟨u4, ⟨y4, p4⟩, g4, q4, s4⟩ := hf 4 _ rfl
    obtain ⟨z0, rfl, w0⟩ := in_int h0 q0
    obtain ⟨z1, rfl, w1⟩ := in_int h1 q1
    obtain ⟨z2, rfl, w2⟩ := in_int h2 q2
    obtain ⟨B, m', d, l, rfl, hr, hmd, hdm, _⟩ := in_bytes h3 h4 h5 q3
    obtain ⟨B2, m2, d2, l2, rfl, hr2, hmd2, hdm2, _, hw2⟩ := in_ints h6 h7 h8 q4
    have hsz := sized_any h6 h7 h8 q4 s4
    rw [h9] at hsz
    refine ⟨⟨z0, z1, z2, B, m', d, l, B2, m2, d2, l2⟩, ⟨⟨hr, hmd, hdm⟩, ⟨hr2, fun z hz => i64_of_wf (hw2 z hz), hsz⟩, i64_of_wf w0, i64_of_wf w1, i64_of_wf w2⟩, b, o, hA, fun j u hj => ?_⟩
    match j, hj with
    | 0, hj => obtain rfl := Option.some.inj hj; exact hc 0 _ g0
    | 1, hj => obtain rfl := Option.some.inj hj; exact hc 1 _ g1
    | 2, hj => obtain rfl := Option.some.inj hj; exact hc 2 _ g2
    | 3, hj => obtain rfl := Option.some.inj hj; exact hc 3 _ g3
    | 4, hj => obtain rfl := Option.some.inj hj; exact hc 4 _ g4)
  exact ⟨A, n, c, L, hv, k1, k2, hnc, hcm, k3⟩
end
end Go.Proofs.YtefhkhocbcnbcaaDoor
