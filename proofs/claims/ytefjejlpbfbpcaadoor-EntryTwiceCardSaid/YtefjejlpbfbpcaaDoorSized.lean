/- The reach of what lies deep in what comes in. -/
import Derived.Test.YtefjejlpbfbpcaaDoorEnt
namespace Go.Proofs.YtefjejlpbfbpcaaDoor
open Go.ChangeShapes Go.WideShapes Go.ChangeAt Go.RowKit Go.Joins Go.Deep
set_option linter.unusedVariables false
set_option linter.unusedSimpArgs false
section
variable {H : Type} {enc : TypeId × Value → H} {P : Program} {w : World} {base : Nat} {spare : Nat → Bool} {held : Bool} {fuel : Nat} {v : Value} {t e : TypeId}
def Sized (P : Program) (t : TypeId) (d : DataW H) : Prop := ∀ x ∈ DataW.weights P t d, x ≤ reachBytes
theorem each_mem : ∀ (ts : List TypeId) (ds : List (DataW H)) (j : Nat) (t : TypeId) (d : DataW H), ts[j]? = some t → ds[j]? = some d → ∀ x ∈ DataW.weights P t d, x ∈ DataW.weightsEach P ts ds
  | [], _, j, t, d, h, _, _, _ => by simp at h
  | _ :: _, [], j, t, d, _, h, _, _ => by simp at h
  | t0 :: ts, d0 :: ds, 0, t, d, h1, h2, x, hx => by
    simp only [List.getElem?_cons_zero, Option.some.injEq] at h1 h2
    subst h1 h2
    rw [DataW.weightsEach]
    exact List.mem_append_left _ hx
  | t0 :: ts, d0 :: ds, j + 1, t, d, h1, h2, x, hx => by
    rw [DataW.weightsEach]
    exact List.mem_append_right _ (each_mem ts ds j t d (by simpa using h1) (by simpa using h2) x hx)
theorem all_mem : ∀ (ds : List (DataW H)) (d : DataW H), d ∈ ds → ∀ x ∈ DataW.weights P e d, x ∈ DataW.weightsAll P e ds
  | [], d, h, _, _ => by cases h
  | d0 :: ds, d, h, x, hx => by
    rw [DataW.weightsAll]
    rcases List.mem_cons.1 h with rfl | h
    · exact List.mem_append_left _ hx
    · exact List.mem_append_right _ (all_mem ds d h x hx)
theorem Sized.each {ts : List TypeId} {ds : List (DataW H)} (h : (DataW.weightsEach P ts ds).all (· ≤ reachBytes) = true) {j : Nat} {d : DataW H} (h1 : ts[j]? = some t) (h2 : ds[j]? = some d) : Sized P t d := fun x hx => by
  have := List.all_eq_true.1 h x (each_mem ts ds j t d h1 h2 x hx)
  simpa using this
theorem Sized.field {fs : Array Field} {parts : List (DataW H)} (he : P.underlying e = some (.struct fs)) (h : Sized P e (.agg parts)) {j : Nat} {f : Field} {d : DataW H} (h1 : fs[j]? = some f) (h2 : parts[j]? = some d) : Sized P f.type d := fun x hx => by
  refine h x ?_
  rw [DataW.weights, he]
  exact each_mem _ _ j f.type d (by simp [h1]) h2 x hx
theorem Sized.elem {es sp : List (DataW H)} (ht : P.underlying t = some (.slice e)) (h : Sized P t (.slice es sp)) {d : DataW H} (hd : d ∈ es) : Sized P e d := fun x hx => by
  refine h x ?_
  rw [DataW.weights, ht]
  exact List.mem_cons_of_mem _ (List.mem_append_left _ (all_mem es d hd x hx))
/-- As in_rows, with the reach of each field. -/
theorem in_rows_sized {fs : Array Field} {d : DataW H} {p : List MemPlace} (ht : P.underlying t = some (.slice e)) (he : P.underlying e = some (.struct fs)) (hone : oneCellFields P fs = true) (hC : P.cellsOf e = fs.size) (hpos : 0 < fs.size)
    (h : DataW.trod enc P w base spare held fuel t [v] = some (d, p)) (hs : Sized P t d) :
    ∃ A n c, v = .slice A n c ∧ n ≤ c ∧ c ≤ maxLen ∧ (A = none → n = 0 ∧ c = 0) ∧ ∀ i, i < n → ∃ (b o : Nat) (cs : List Value) (m : Nat), A = some ⟨b, o, none⟩ ∧ cs.length = fs.size ∧
      (∀ j u, cs[j]? = some u → w.cell? ⟨b, o + i * fs.size + j, none⟩ = some u) ∧ ∀ (j : Nat) (f : Field), fs[j]? = some f → ∃ u y, cs[j]? = some u ∧ DataW.trod enc P w base spare held m f.type [u] = some y ∧ Sized P f.type y.1 := by
  rcases open_slice_fields ht he hone hC h with ⟨hcs, _⟩ | ⟨a, len, cap, m, D, Pl, hcs, _, hl, hm, hmm, hx, hi⟩
  · exact ⟨none, 0, 0, by simpa using hcs, Nat.le_refl _, by simp [maxLen], fun _ => ⟨rfl, rfl⟩, fun i hi => by omega⟩
  · refine ⟨some a, len, cap, by simpa using hcs, hl, hm, (fun h => by cases h), fun i hil => ?_⟩
    have him : i < m := by rw [hmm]; split <;> omega
    obtain ⟨ys, n', hDi, _, hyl, hf⟩ := hi i him
    simp only [Prod.mk.injEq] at hx
    rw [hx.1] at hs
    have hsi : Sized P e (.agg (ys.map (·.1))) := hDi ▸ hs.elem ht (List.mem_map.2 ⟨i, List.mem_range.2 hil, rfl⟩)
    have hspot : a.spot = none := by
      obtain ⟨ys0, n0, _, _, _, hf0⟩ := hi 0 (by omega)
      obtain ⟨u, y, hc, _⟩ := hf0 0 _ (Array.getElem?_eq_getElem hpos)
      have : (a.add (0 * fs.size + 0)) = a := by simp [Addr.add]
      rw [this] at hc
      obtain ⟨b, o, sp⟩ := a
      exact World.cell?_spot hc
    obtain ⟨b, o, sp⟩ := a
    dsimp only at hspot
    subst hspot
    have hadd : ∀ k, (⟨b, o, none⟩ : Addr).add k = ⟨b, o + k, none⟩ := fun k => by unfold Addr.add; split <;> simp_all
    refine ⟨b, o, (List.range fs.size).map fun j => (w.cell? ⟨b, o + i * fs.size + j, none⟩).getD undef, n', rfl, by simp, fun j u hu => ?_, fun j f hj => ?_⟩
    · simp only [List.getElem?_map] at hu
      by_cases hjl : j < fs.size
      · obtain ⟨u', y, hc, _⟩ := hf j _ (Array.getElem?_eq_getElem hjl)
        rw [hadd, ← Nat.add_assoc] at hc
        rw [List.getElem?_range hjl] at hu
        simp only [Option.map_some, hc, Option.getD_some, Option.some.injEq] at hu
        rw [hc, hu]
      · rw [List.getElem?_eq_none (by simpa using hjl)] at hu
        cases hu
    · have hjl : j < fs.size := (Array.getElem?_eq_some_iff.1 hj).1
      obtain ⟨u', y, hc, hy, ht'⟩ := hf j f hj
      rw [hadd, ← Nat.add_assoc] at hc
      exact ⟨u', y, by rw [List.getElem?_map, List.getElem?_range hjl]; simp [hc], ht', hsi.field he hj (by rw [List.getElem?_map, hy]; rfl)⟩
theorem sized_ints {k : IntKind} {A : Option Addr} {n c : Nat} {d : DataW H} {p : List MemPlace} (hu : P.underlying t = some (.slice e)) (he : P.underlying e = some (.int k)) (hc : P.cellsOf e = 1) (hb : P.bytesOf e = 1)
    (h : DataW.trod enc P w base spare held fuel t [.slice A n c] = some (d, p)) (hs : Sized P t d) : n ≤ reachBytes := by
  rcases open_ints hu he hc h with ⟨hcs, _⟩ | ⟨a, len, cap, zs, hcs, _, hl, hm, hz, hx, _⟩
  · simp only [List.cons.injEq, Value.slice.injEq, and_true] at hcs
    rw [hcs.2.1]
    exact Nat.zero_le _
  · simp only [List.cons.injEq, Value.slice.injEq, and_true] at hcs
    simp only [Prod.mk.injEq] at hx
    rw [hx.1] at hs
    have h1 := hs _ (by rw [DataW.weights, hu]; exact List.mem_cons_self ..)
    rw [hb, Nat.mul_one] at h1
    have h2 : len ≤ zs.length := by rw [hz]; split <;> omega
    have h3 : (lits (H := H) k (zs.take len)).length = len := by simp [lits]; omega
    omega
/-- Rows of three integers and bytes, all within the reach. -/
theorem in_ents_sized {e3 : TypeId} {f0 f1 f2 f3 : Field} {d : DataW H} {p : List MemPlace}
    (ht : P.underlying t = some (.slice e)) (he : P.underlying e = some (.struct #[f0, f1, f2, f3])) (hone : oneCellFields P #[f0, f1, f2, f3] = true) (hC : P.cellsOf e = 4)
    (h0 : P.underlying f0.type = some (.int .i64)) (h1 : P.underlying f1.type = some (.int .i64)) (h2 : P.underlying f2.type = some (.int .i64)) (h3 : P.underlying f3.type = some (.slice e3)) (h4 : P.underlying e3 = some (.int .u8)) (h5 : P.cellsOf e3 = 1) (h6 : P.bytesOf e3 = 1)
    (h : DataW.trod enc P w base spare held fuel t [v] = some (d, p)) (hs : Sized P t d) :
    ∃ A n c, ∃ L : List Er, v = .slice A n c ∧ Rd w T 4 A n (flat ecell L) ∧ L.length = n ∧ n ≤ c ∧ c ≤ maxLen ∧ (A = none → n = 0 ∧ c = 0) ∧ Dat w L ∧ ∀ y ∈ L, W64 y ∧ y.n ≤ reachBytes := by
  obtain ⟨A, n, c, hv, hnc, hcm, haz, hrow⟩ := in_rows_sized ht he hone hC (by simp) h hs
  obtain ⟨L, k1, k2, k3⟩ := rd_of_rows (A := A) (n := n) (w := w) ecell_len (by omega) (fun y => (Rd w T 1 y.A y.n (bs y.d) ∧ y.n ≤ y.m ∧ y.m ≤ maxLen) ∧ W64 y ∧ y.n ≤ reachBytes) (by
    intro i hi
    obtain ⟨b, o, cs, m, hA, hl, hc, hf⟩ := hrow i hi
    obtain ⟨u0, y0, g0, q0, -⟩ := hf 0 _ rfl
    obtain ⟨u1, y1, g1, q1, -⟩ := hf 1 _ rfl
    obtain ⟨u2, y2, g2, q2, -⟩ := hf 2 _ rfl
    obtain ⟨u3, ⟨y3, p3⟩, g3, q3, s3⟩ := hf 3 _ rfl
    obtain ⟨z0, rfl, w0⟩ := in_int h0 q0
    obtain ⟨z1, rfl, w1⟩ := in_int h1 q1
    obtain ⟨z2, rfl, w2⟩ := in_int h2 q2
    obtain ⟨B, m', d, l, rfl, hr, hmd, hdm, _⟩ := in_bytes h3 h4 h5 q3
    have hsz := sized_ints h3 h4 h5 h6 q3 s3
    refine ⟨⟨z0, z1, z2, B, m', d, l⟩, ⟨⟨hr, hmd, hdm⟩, ⟨i64_of_wf w0, i64_of_wf w1, i64_of_wf w2⟩, hsz⟩, b, o, hA, fun j u hj => ?_⟩
    match j, hj with
    | 0, hj => obtain rfl := Option.some.inj hj; exact hc 0 _ g0
    | 1, hj => obtain rfl := Option.some.inj hj; exact hc 1 _ g1
    | 2, hj => obtain rfl := Option.some.inj hj; exact hc 2 _ g2
    | 3, hj => obtain rfl := Option.some.inj hj; exact hc 3 _ g3)
  exact ⟨A, n, c, L, hv, k1, k2, hnc, hcm, haz, fun y hy => (k3 y hy).1, fun y hy => (k3 y hy).2⟩
end
end Go.Proofs.YtefjejlpbfbpcaaDoor
