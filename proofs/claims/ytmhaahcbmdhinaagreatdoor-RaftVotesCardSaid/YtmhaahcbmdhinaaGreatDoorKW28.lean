/- Walk: tollbarlaw13.sure.
   The reach of what lies deep in what comes in.
   (Cut out of lib's XStIn.) What comes in: what is to be kept (the document's, seven cells each, the log and the members and the snapshot within).
   What comes in: rows of messages (the document's).
   Walk: tollbarlaw13.RaftVotes. (Printed by mkvotes.py.) -/
import Derived.Test.YtmhaahcbmdhinaaGreatDoorKW26
import Derived.Test.YtmhaahcbmdhinaaGreatDoorKW1
import Derived.Test.YtmhaahcbmdhinaaGreatDoorKW10
import Derived.Test.YtmhaahcbmdhinaaGreatDoorKW16
import Derived.Test.YtmhaahcbmdhinaaGreatDoorKW27
namespace Go.Proofs.YtmhaahcbmdhinaaGreatDoor
open Go.RowKit
set_option maxRecDepth 100000
set_option linter.unusedVariables false
set_option linter.unusedSimpArgs false
def sureC (i : Nat) : Cr := if i < 4 then lone0 4 4 i else lone1 4 4 [⟨1, 1, 0, []⟩] 0
theorem lon_one : LonL [⟨1, 1, 0, []⟩] := by
  have := LonL.nil.snoc (kd := 0) (d := []) (.inl rfl) (by simp) (by simp)
  exact this
theorem sureC_tick {i : Nat} (h : i < 4) : (sureC i).tick 0 = (sureC (i + 1), []) := by
  unfold sureC
  rw [if_pos h]
  by_cases h2 : i + 1 < 4
  · rw [if_pos h2, lone_tick0 (by omega)]
    rfl
  · rw [if_neg h2, lone_lead (by omega)]
    rfl
theorem sureC_prop : (sureC 4).propose 1 [120] = (lone1 4 4 [⟨1, 1, 0, []⟩, ⟨2, 1, 1, [120]⟩] 0, 2, [], 0) := by
  have := lone_propose (span := 4) (wait := 4) (r := 0) lon_one (by simp) (by simp) [120]
  exact this
theorem i64_0 : I64 0 := by unfold I64; omega
theorem St1_may : (St.mk 0 0 0 0 [] [1] []).may = true := by decide
set_option maxHeartbeats 12800000 in
theorem sure_any {fb : Nat} (w : World) (he : Env fb w) : Calls Tryz.prog 11 #[] w (BoolPost w true) := by
  obtain ⟨W0, hW0⟩ : ∃ W0, W0 = w.alloc (.cells #[.int .i64 1] 3) := ⟨_, rfl⟩
  have hb0 : Below w.heap.size w W0 := by subst hW0; exact (Below.refl _ _).alloc (Nat.le_refl _) _
  have r0 : Rd W0 T 1 (some ⟨w.heap.size, 0, none⟩) 1 (ii [1]) := by subst hW0; exact (show Rd _ _ 1 _ 1 (ii [1]) from Rd.blit1 (cs := #[.int .i64 1]) rfl).any
  have a0 : Sv.At ⟨0, 0, 0, 0, none, 0, 0, [], some ⟨w.heap.size, 0, none⟩, 1, 1, [1], none, 0, 0, []⟩ W0 T := ⟨Rd.none_, (fun y hy => by cases hy), r0, Rd.none_, ⟨Nat.le_refl _, by simp [maxLen]⟩, ⟨Nat.le_refl _, by simp [maxLen]⟩, ⟨Nat.le_refl _, by simp [maxLen]⟩⟩
  have hf : Sv.Fit ⟨0, 0, 0, 0, none, 0, 0, [], some ⟨w.heap.size, 0, none⟩, 1, 1, [1], none, 0, 0, []⟩ := ⟨⟨i64_0, i64_0, i64_0, i64_0⟩, (fun y hy => by cases hy), by show (0 : Nat) ≤ 1000000 ∧ (1 : Nat) ≤ 1000000 ∧ (0 : Nat) ≤ 100000000; omega⟩
  have hnw := new_ok 1 4 0 _ W0 a0 hf (he.new hb0).ev (by omega) (by omega) (by omega) (by omega)
  have HW := Lib.hid hW0
  have H := Lib.hid (And.intro he hb0)
  have Hnw := Lib.hid hnw
  unfold Sv.val stA at Hnw
  clear hW0 hb0 r0 a0 hf hnw he
  go_enter Tryz.func11, Tryz.ntmps11
  go_wp2_with fail
  rw [← HW.out]
  refine Hnw.out.mono ?_
  intro e w1 h1
  have h1 : NewPost W0 1 4 0 ⟨0, 0, 0, 0, [], [1], []⟩ e w1 := h1
  unfold NewPost at h1
  rw [if_pos St1_may] at h1
  obtain ⟨p, s', rfl, b1, a1, e1, hp, m1, hb1⟩ := h1
  have hb1' : Below w.heap.size w w1 := H.out.2.trans (hb1.mono H.out.2.size)
  have hcx : CX w.heap.size w1 (p + 1) (fun b => b = p ∨ b = p + 1) (fun b => b = p ∨ b = p + 1) (sureC 0) (newMb p s') := CX.ofNew H.out.2.size b1 a1 e1 hp m1
  have hok : (sureC 0).Ok 1 := Cr.Ok.new (id := 1) (span := 4) (draw := 0) St1_may (by show (0 : Nat) ≤ _; omega) (by decide) (by decide)
  have hle := H.out.1.le
  have hen : Env w.heap.size w := ⟨w, rfl, H.out.1.ev, H.out.1.tab, Below.refl _ _⟩
  have hen1 : Env w.heap.size w1 := hen.new hb1'
  have S1 := Lib.hid (And.intro hcx (And.intro hok (And.intro hen1 hb1')))
  have hpw : w.heap.size ≤ p := Nat.le_trans H.out.2.size hp
  clear b1 a1 e1 hp m1 hb1 hb1' hcx hok hle hen hen1
  go_wp2_with fail
  go_loopg [3] 4 (fun gm s3 wr => ∃ (i : Nat) (V' U' : Nat → Prop) (m' : Mb), gm = 4 - i ∧ i ≤ 4 ∧ s3 = .int .i64 i ∧ CTo w.heap.size w1 (p + 1) (fun b => b = p ∨ b = p + 1) (fun b => b = p ∨ b = p + 1) (sureC i) wr V' U' m' ∧ (sureC i).Ok 1)
  case atStart => exact ⟨0, _, _, _, by omega, by omega, rfl, CTo.refl S1.out.1, S1.out.2.1⟩
  case round =>
    obtain ⟨i, V', U', m', hm, hi, rfl, hR⟩ := hrel
    have Hm := Lib.hid hm
    have R := Lib.hid hR
    clear hm hR
    have hen : Env w.heap.size wr := S1.out.2.2.1.kept R.out.1.kept S1.out.1.vf
    by_cases hlt : i < 4
    · have hltI : decide ((i : Int) < 4) = true := decide_eq_true (by omega)
      have htk := tick_any 0 R.out.1.cx R.out.2 hen
      have htk2 := R.out.2.tick 0
      rw [sureC_tick hlt] at htk htk2
      have Htk := Lib.hid (And.intro htk htk2)
      clear htk htk2 hen
      go_wp2_with fail
      refine Htk.out.1.mono ?_
      intro e w2 h2
      obtain ⟨A2, n2, c2, X2, V2, U2, m2, rfl, _, _, _, t2⟩ := h2
      have T2 := Lib.hid t2
      clear t2
      go_wp2_with fail
      go_roundg (4 - (i + 1))
      case measure => have := Hm.out; omega
      case rel => exact ⟨i + 1, V2, U2, m2, rfl, by omega, by go_num, R.out.1.trans T2.out, Htk.out.2⟩
    · have hltI : decide ((i : Int) < 4) = false := decide_eq_false (by omega)
      obtain rfl : i = 4 := by omega
      obtain ⟨W3, hW3⟩ : ∃ W3, W3 = wr.alloc (.cells #[.int .u8 120] 5 (1, 2)) := ⟨_, rfl⟩
      have hb3 : Below wr.heap.size wr W3 := by subst hW3; exact (Below.refl _ _).alloc (Nat.le_refl _) _
      have r3 : Rd W3 T 1 (some ⟨wr.heap.size, 0, none⟩) 1 (bs [120]) := by subst hW3; exact (show Rd _ _ 1 _ 1 (bs [120]) from Rd.blit1 (cs := #[.int .u8 120]) rfl).any
      have hpr := propose_any 1 (some ⟨wr.heap.size, 0, none⟩) 1 1 [120] (R.out.1.cx.below hb3) R.out.2 (hen.new hb3) r3 ⟨Nat.le_refl _, by simp [maxLen]⟩
      rw [sureC_prop] at hpr
      have Hpr := Lib.hid (And.intro hpr hb3)
      have HW3 := Lib.hid hW3
      clear hpr hb3 hW3 r3 hen
      have kc := fun (W : World) (C : Array Value) (n c : Nat) => Lib.run_convert_bytes_const (P := Tryz.prog) W 26 5 C n c Tryz.underlying26 Tryz.underlying5
      go_wp2_with fail
      clear kc
      try simp only [List.size_toArray, List.length_cons, List.length_nil, Nat.zero_add, Nat.reduceAdd]
      rw [← HW3.out]
      refine Hpr.out.1.mono ?_
      intro e w4 h4
      obtain ⟨A4, n4, c4, rfl, h4⟩ := h4
      obtain ⟨A5, n5, c5, X5, V5, U5, m5, _, _, _, _, t5⟩ := h4
      have T5 := Lib.hid t5
      clear t5
      have hvw := view_any T5.out.cx
      unfold Cr.viewV at hvw
      have Hvw := Lib.hid hvw
      clear hvw
      rw [errE0]
      go_wp2_with fail
      refine Hvw.out.mono ?_
      rintro e w6 ⟨rfl, hb6⟩
      have hbe : Below w.heap.size w w6 := by
        have h1 := S1.out.2.2.2.trans (Kept.below R.out.1.kept (fun b hb => by rcases hb with rfl | rfl <;> omega) S1.out.2.2.2.size)
        have h2 := h1.trans (Hpr.out.2.mono h1.size)
        have h3 := h2.trans (Kept.below T5.out.kept (fun b hb => R.out.1.cx.vf b hb) h2.size)
        exact h3.trans (hb6.mono h3.size)
      have HB := Lib.hid hbe
      clear hb6 hbe
      go_wp2_with fail
      go_ret
      exact ⟨rfl, HB.out.alloc HB.out.size _⟩
end Go.Proofs.YtmhaahcbmdhinaaGreatDoor

namespace Go.Proofs.YtmhaahcbmdhinaaGreatDoor
open Go.ChangeShapes Go.WideShapes Go.ChangeAt Go.RowKit Go.Joins Go.Deep
set_option linter.unusedVariables false
set_option linter.unusedSimpArgs false
section
variable {H : Type} {enc : TypeId × Value → H} {P : Program} {w : World} {base : Nat} {spare : Nat → Bool} {held : Bool} {fuel : Nat} {v : Value} {t e : TypeId}
def Sized (P : Program) (t : TypeId) (d : DataW H) : Prop := ∀ x ∈ DataW.weights P t d, x ≤ reachBytes
theorem each_mem : ∀ (ts : List TypeId) (ds : List (DataW H)) (j : Nat) (t : TypeId) (d : DataW H), ts[j]? = some t → ds[j]? = some d → ∀ x ∈ DataW.weights P t d, x ∈ DataW.weightsEach P ts ds
  | [], _, j, t, d, h, _, _, _ => by simp at h
  | _ :: _, [], j, t, d, _, h, _, _ => by simp at h
  | t0 :: ts, d0 :: ds, 0, t, d, h1, h2, x, hx => by
    simp only [List.getElem?_cons_zero, Option.some.injEq] at h1 h2
    subst h1 h2
    rw [DataW.weightsEach]
    exact List.mem_append_left _ hx
  | t0 :: ts, d0 :: ds, j + 1, t, d, h1, h2, x, hx => by
    rw [DataW.weightsEach]
    exact List.mem_append_right _ (each_mem ts ds j t d (by simpa using h1) (by simpa using h2) x hx)
theorem all_mem : ∀ (ds : List (DataW H)) (d : DataW H), d ∈ ds → ∀ x ∈ DataW.weights P e d, x ∈ DataW.weightsAll P e ds
  | [], d, h, _, _ => by cases h
  | d0 :: ds, d, h, x, hx => by
    rw [DataW.weightsAll]
    rcases List.mem_cons.1 h with rfl | h
    · exact List.mem_append_left _ hx
    · exact List.mem_append_right _ (all_mem ds d h x hx)
theorem Sized.each {ts : List TypeId} {ds : List (DataW H)} (h : (DataW.weightsEach P ts ds).all (· ≤ reachBytes) = true) {j : Nat} {d : DataW H} (h1 : ts[j]? = some t) (h2 : ds[j]? = some d) : Sized P t d := fun x hx => by
  have := List.all_eq_true.1 h x (each_mem ts ds j t d h1 h2 x hx)
  simpa using this
theorem Sized.field {fs : Array Field} {parts : List (DataW H)} (he : P.underlying e = some (.struct fs)) (h : Sized P e (.agg parts)) {j : Nat} {f : Field} {d : DataW H} (h1 : fs[j]? = some f) (h2 : parts[j]? = some d) : Sized P f.type d := fun x hx => by
  refine h x ?_
  rw [DataW.weights, he]
  exact each_mem _ _ j f.type d (by simp [h1]) h2 x hx
theorem Sized.elem {es sp : List (DataW H)} (ht : P.underlying t = some (.slice e)) (h : Sized P t (.slice es sp)) {d : DataW H} (hd : d ∈ es) : Sized P e d := fun x hx => by
  refine h x ?_
  rw [DataW.weights, ht]
  exact List.mem_cons_of_mem _ (List.mem_append_left _ (all_mem es d hd x hx))
/-- As in_rows, with the reach of each field. -/
theorem in_rows_sized {fs : Array Field} {d : DataW H} {p : List MemPlace} (ht : P.underlying t = some (.slice e)) (he : P.underlying e = some (.struct fs)) (hone : oneCellFields P fs = true) (hC : P.cellsOf e = fs.size) (hpos : 0 < fs.size)
    (h : DataW.trod enc P w base spare held fuel t [v] = some (d, p)) (hs : Sized P t d) :
    ∃ A n c, v = .slice A n c ∧ n ≤ c ∧ c ≤ maxLen ∧ (A = none → n = 0 ∧ c = 0) ∧ ∀ i, i < n → ∃ (b o : Nat) (cs : List Value) (m : Nat), A = some ⟨b, o, none⟩ ∧ cs.length = fs.size ∧
      (∀ j u, cs[j]? = some u → w.cell? ⟨b, o + i * fs.size + j, none⟩ = some u) ∧ ∀ (j : Nat) (f : Field), fs[j]? = some f → ∃ u y, cs[j]? = some u ∧ DataW.trod enc P w base spare held m f.type [u] = some y ∧ Sized P f.type y.1 := by
  rcases open_slice_fields ht he hone hC h with ⟨hcs, _⟩ | ⟨a, len, cap, m, D, Pl, hcs, _, hl, hm, hmm, hx, hi⟩
  · exact ⟨none, 0, 0, by simpa using hcs, Nat.le_refl _, by simp [maxLen], fun _ => ⟨rfl, rfl⟩, fun i hi => by omega⟩
  · refine ⟨some a, len, cap, by simpa using hcs, hl, hm, (fun h => by cases h), fun i hil => ?_⟩
    have him : i < m := by rw [hmm]; split <;> omega
    obtain ⟨ys, n', hDi, _, hyl, hf⟩ := hi i him
    simp only [Prod.mk.injEq] at hx
    rw [hx.1] at hs
    have hsi : Sized P e (.agg (ys.map (·.1))) := hDi ▸ hs.elem ht (List.mem_map.2 ⟨i, List.mem_range.2 hil, rfl⟩)
    have hspot : a.spot = none := by
      obtain ⟨ys0, n0, _, _, _, hf0⟩ := hi 0 (by omega)
      obtain ⟨u, y, hc, _⟩ := hf0 0 _ (Array.getElem?_eq_getElem hpos)
      have : (a.add (0 * fs.size + 0)) = a := by simp [Addr.add]
      rw [this] at hc
      obtain ⟨b, o, sp⟩ := a
      exact World.cell?_spot hc
    obtain ⟨b, o, sp⟩ := a
    dsimp only at hspot
    subst hspot
    have hadd : ∀ k, (⟨b, o, none⟩ : Addr).add k = ⟨b, o + k, none⟩ := fun k => by unfold Addr.add; split <;> simp_all
    refine ⟨b, o, (List.range fs.size).map fun j => (w.cell? ⟨b, o + i * fs.size + j, none⟩).getD undef, n', rfl, by simp, fun j u hu => ?_, fun j f hj => ?_⟩
    · simp only [List.getElem?_map] at hu
      by_cases hjl : j < fs.size
      · obtain ⟨u', y, hc, _⟩ := hf j _ (Array.getElem?_eq_getElem hjl)
        rw [hadd, ← Nat.add_assoc] at hc
        rw [List.getElem?_range hjl] at hu
        simp only [Option.map_some, hc, Option.getD_some, Option.some.injEq] at hu
        rw [hc, hu]
      · rw [List.getElem?_eq_none (by simpa using hjl)] at hu
        cases hu
    · have hjl : j < fs.size := (Array.getElem?_eq_some_iff.1 hj).1
      obtain ⟨u', y, hc, hy, ht'⟩ := hf j f hj
      rw [hadd, ← Nat.add_assoc] at hc
      exact ⟨u', y, by rw [List.getElem?_map, List.getElem?_range hjl]; simp [hc], ht', hsi.field he hj (by rw [List.getElem?_map, hy]; rfl)⟩
theorem sized_ints {k : IntKind} {A : Option Addr} {n c : Nat} {d : DataW H} {p : List MemPlace} (hu : P.underlying t = some (.slice e)) (he : P.underlying e = some (.int k)) (hc : P.cellsOf e = 1) (hb : P.bytesOf e = 1)
    (h : DataW.trod enc P w base spare held fuel t [.slice A n c] = some (d, p)) (hs : Sized P t d) : n ≤ reachBytes := by
  rcases open_ints hu he hc h with ⟨hcs, _⟩ | ⟨a, len, cap, zs, hcs, _, hl, hm, hz, hx, _⟩
  · simp only [List.cons.injEq, Value.slice.injEq, and_true] at hcs
    rw [hcs.2.1]
    exact Nat.zero_le _
  · simp only [List.cons.injEq, Value.slice.injEq, and_true] at hcs
    simp only [Prod.mk.injEq] at hx
    rw [hx.1] at hs
    have h1 := hs _ (by rw [DataW.weights, hu]; exact List.mem_cons_self ..)
    rw [hb, Nat.mul_one] at h1
    have h2 : len ≤ zs.length := by rw [hz]; split <;> omega
    have h3 : (lits (H := H) k (zs.take len)).length = len := by simp [lits]; omega
    omega
/-- Rows of three integers and bytes, all within the reach. -/
theorem in_ents_sized {e3 : TypeId} {f0 f1 f2 f3 : Field} {d : DataW H} {p : List MemPlace}
    (ht : P.underlying t = some (.slice e)) (he : P.underlying e = some (.struct #[f0, f1, f2, f3])) (hone : oneCellFields P #[f0, f1, f2, f3] = true) (hC : P.cellsOf e = 4)
    (h0 : P.underlying f0.type = some (.int .i64)) (h1 : P.underlying f1.type = some (.int .i64)) (h2 : P.underlying f2.type = some (.int .i64)) (h3 : P.underlying f3.type = some (.slice e3)) (h4 : P.underlying e3 = some (.int .u8)) (h5 : P.cellsOf e3 = 1) (h6 : P.bytesOf e3 = 1)
    (h : DataW.trod enc P w base spare held fuel t [v] = some (d, p)) (hs : Sized P t d) :
    ∃ A n c, ∃ L : List Er, v = .slice A n c ∧ Rd w T 4 A n (flat ecell L) ∧ L.length = n ∧ n ≤ c ∧ c ≤ maxLen ∧ (A = none → n = 0 ∧ c = 0) ∧ Dat w L ∧ ∀ y ∈ L, W64 y ∧ y.n ≤ reachBytes := by
  obtain ⟨A, n, c, hv, hnc, hcm, haz, hrow⟩ := in_rows_sized ht he hone hC (by simp) h hs
  obtain ⟨L, k1, k2, k3⟩ := rd_of_rows (A := A) (n := n) (w := w) ecell_len (by omega) (fun y => (Rd w T 1 y.A y.n (bs y.d) ∧ y.n ≤ y.m ∧ y.m ≤ maxLen) ∧ W64 y ∧ y.n ≤ reachBytes) (by
    intro i hi
    obtain ⟨b, o, cs, m, hA, hl, hc, hf⟩ := hrow i hi
    obtain ⟨u0, y0, g0, q0, -⟩ := hf 0 _ rfl
    obtain ⟨u1, y1, g1, q1, -⟩ := hf 1 _ rfl
    obtain ⟨u2, y2, g2, q2, -⟩ := hf 2 _ rfl
    obtain ⟨u3, ⟨y3, p3⟩, g3, q3, s3⟩ := hf 3 _ rfl
    obtain ⟨z0, rfl, w0⟩ := in_int h0 q0
    obtain ⟨z1, rfl, w1⟩ := in_int h1 q1
    obtain ⟨z2, rfl, w2⟩ := in_int h2 q2
    obtain ⟨B, m', d, l, rfl, hr, hmd, hdm, _⟩ := in_bytes h3 h4 h5 q3
    have hsz := sized_ints h3 h4 h5 h6 q3 s3
    refine ⟨⟨z0, z1, z2, B, m', d, l⟩, ⟨⟨hr, hmd, hdm⟩, ⟨i64_of_wf w0, i64_of_wf w1, i64_of_wf w2⟩, hsz⟩, b, o, hA, fun j u hj => ?_⟩
    match j, hj with
    | 0, hj => obtain rfl := Option.some.inj hj; exact hc 0 _ g0
    | 1, hj => obtain rfl := Option.some.inj hj; exact hc 1 _ g1
    | 2, hj => obtain rfl := Option.some.inj hj; exact hc 2 _ g2
    | 3, hj => obtain rfl := Option.some.inj hj; exact hc 3 _ g3)
  exact ⟨A, n, c, L, hv, k1, k2, hnc, hcm, haz, fun y hy => (k3 y hy).1, fun y hy => (k3 y hy).2⟩
end
end Go.Proofs.YtmhaahcbmdhinaaGreatDoor

namespace Go.Proofs.YtmhaahcbmdhinaaGreatDoor
open Go.ChangeShapes Go.WideShapes Go.ChangeAt Go.RowKit Go.Joins Go.Deep
set_option linter.unusedVariables false
set_option linter.unusedSimpArgs false
def scell (s : Sv) : List Value := [.int .i64 s.tm, .int .i64 s.vt, .int .i64 s.b, .int .i64 s.t, .slice s.A s.n s.c, .slice s.C s.nc s.cc, .slice s.S s.ns s.cs]
def Sv.I (s : Sv) : Prop := (I64 s.tm ∧ I64 s.vt ∧ I64 s.b ∧ I64 s.t) ∧ ∀ y ∈ s.L, W64 y ∧ y.n ≤ reachBytes
theorem seven {l : List Value} (h : l.length = 7) : ∃ a b c d e f g, l = [a, b, c, d, e, f, g] := by
  match l, h with
  | [a, b, c, d, e, f, g], _ => exact ⟨a, b, c, d, e, f, g, rfl⟩
section
variable {H : Type} {enc : TypeId × Value → H} {w : World} {base : Nat} {spare : Nat → Bool} {held : Bool} {fuel : Nat} {v : Value} {dd : DataW H} {pp : List MemPlace}
theorem in_sv {cs : List Value} (h : DataW.trod enc Tryz.prog w base spare held fuel 28 cs = some (dd, pp)) (hs : Sized Tryz.prog 28 dd) : ∃ s : Sv, cs = scell s ∧ s.At w T ∧ s.I := by
  obtain ⟨ys, n, _, hx, hlen, hyl, hf⟩ := DataW.trod_struct Tryz.underlying28 h
  obtain ⟨a, b, c, d, e, f, g, rfl⟩ := seven (hlen.trans (by kernel_rfl))
  have c1 : Tryz.prog.cellsOf 3 = 1 := by kernel_rfl
  have c3 : Tryz.prog.cellsOf 24 = 3 := by kernel_rfl
  have ci : Tryz.prog.cellsOf 25 = 1 := by kernel_rfl
  have cb : Tryz.prog.cellsOf 26 = 1 := by kernel_rfl
  have some_ : ∀ i, i < 5 → ∃ y, ys[i]? = some y := fun i hi => ⟨_, List.getElem?_eq_getElem (by rw [show ys.length = 5 from hyl]; exact hi)⟩
  have h0 : DataW.trod enc Tryz.prog w base spare held n 3 ((([a, b, c, d, e, f, g] : List Value).drop 0).take (Tryz.prog.cellsOf 3)) = ys[0]? := hf 0 _ rfl
  have h1 : DataW.trod enc Tryz.prog w base spare held n 3 ((([a, b, c, d, e, f, g] : List Value).drop 1).take (Tryz.prog.cellsOf 3)) = ys[1]? := hf 1 _ rfl
  have h2 : DataW.trod enc Tryz.prog w base spare held n 24 ((([a, b, c, d, e, f, g] : List Value).drop 2).take (Tryz.prog.cellsOf 24)) = ys[2]? := hf 2 _ rfl
  have h3 : DataW.trod enc Tryz.prog w base spare held n 25 ((([a, b, c, d, e, f, g] : List Value).drop 5).take (Tryz.prog.cellsOf 25)) = ys[3]? := hf 3 _ rfl
  have h4 : DataW.trod enc Tryz.prog w base spare held n 26 ((([a, b, c, d, e, f, g] : List Value).drop 6).take (Tryz.prog.cellsOf 26)) = ys[4]? := hf 4 _ rfl
  rw [c1] at h0 h1
  rw [c3] at h2
  rw [ci] at h3
  rw [cb] at h4
  simp only [List.drop_zero, List.drop_succ_cons, List.take_succ_cons, List.take_zero] at h0 h1 h2 h3 h4
  obtain ⟨y0, e0⟩ := some_ 0 (by omega)
  obtain ⟨y1, e1⟩ := some_ 1 (by omega)
  obtain ⟨y2, e2⟩ := some_ 2 (by omega)
  obtain ⟨y3, e3⟩ := some_ 3 (by omega)
  obtain ⟨y4, e4⟩ := some_ 4 (by omega)
  rw [e0] at h0
  rw [e1] at h1
  rw [e2] at h2
  rw [e3] at h3
  rw [e4] at h4
  rw [show dd = _ from congrArg Prod.fst hx] at hs
  have s2 : Sized Tryz.prog 24 y2.1 := hs.field Tryz.underlying28 (j := 2) rfl (by rw [List.getElem?_map, e2]; rfl)
  obtain ⟨zs, m, _, hx2, _, lz, hg⟩ := DataW.trod_struct Tryz.underlying24 h2
  rw [show y2.1 = _ from congrArg Prod.fst hx2] at s2
  have some3 : ∀ i, i < 3 → ∃ y, zs[i]? = some y := fun i hi => ⟨_, List.getElem?_eq_getElem (by rw [show zs.length = 3 from lz]; exact hi)⟩
  have ce : Tryz.prog.cellsOf 22 = 1 := by kernel_rfl
  have k0 : DataW.trod enc Tryz.prog w base spare held m 3 ((([c, d, e] : List Value).drop 0).take (Tryz.prog.cellsOf 3)) = zs[0]? := hg 0 _ rfl
  have k1 : DataW.trod enc Tryz.prog w base spare held m 3 ((([c, d, e] : List Value).drop 1).take (Tryz.prog.cellsOf 3)) = zs[1]? := hg 1 _ rfl
  have k2 : DataW.trod enc Tryz.prog w base spare held m 22 ((([c, d, e] : List Value).drop 2).take (Tryz.prog.cellsOf 22)) = zs[2]? := hg 2 _ rfl
  rw [c1] at k0 k1
  rw [ce] at k2
  simp only [List.drop_zero, List.drop_succ_cons, List.take_succ_cons, List.take_zero] at k0 k1 k2
  obtain ⟨x0, q0⟩ := some3 0 (by omega)
  obtain ⟨x1, q1⟩ := some3 1 (by omega)
  obtain ⟨x2, q2⟩ := some3 2 (by omega)
  rw [q0] at k0
  rw [q1] at k1
  rw [q2] at k2
  have s3 : Sized Tryz.prog 22 x2.1 := s2.field Tryz.underlying24 (j := 2) rfl (by rw [List.getElem?_map, q2]; rfl)
  obtain ⟨x2d, x2p⟩ := x2
  obtain ⟨z0, rfl, w0⟩ := in_int Tryz.underlying3 h0
  obtain ⟨z1, rfl, w1⟩ := in_int Tryz.underlying3 h1
  obtain ⟨z2, rfl, w2⟩ := in_int Tryz.underlying3 k0
  obtain ⟨z3, rfl, w3⟩ := in_int Tryz.underlying3 k1
  obtain ⟨A, nA, cA, L, rfl, r1, _, n1, n2, _, dt, wt⟩ := in_ents_sized Tryz.underlying22 Tryz.underlying104 (by kernel_rfl) (by kernel_rfl) Tryz.underlying3 Tryz.underlying3 Tryz.underlying3 Tryz.underlying26 Tryz.underlying5 (by kernel_rfl) (by kernel_rfl) k2 s3
  obtain ⟨C, nC, cC, cf, rfl, r2, n3, n4, _, _⟩ := in_ints Tryz.underlying25 Tryz.underlying3 (by kernel_rfl) h3
  obtain ⟨S, nS, cS, sn, rfl, r3, n5, n6, _⟩ := in_bytes Tryz.underlying26 Tryz.underlying5 (by kernel_rfl) h4
  exact ⟨⟨z0, z1, z2, z3, A, nA, cA, L, C, nC, cC, cf, S, nS, cS, sn⟩, rfl, ⟨r1, fun y hy => dt y hy, r2, r3, ⟨n1, n2⟩, ⟨n3, n4⟩, ⟨n5, n6⟩⟩, ⟨i64_of_wf w0, i64_of_wf w1, i64_of_wf w2, i64_of_wf w3⟩, wt⟩
end
end Go.Proofs.YtmhaahcbmdhinaaGreatDoor

namespace Go.Proofs.YtmhaahcbmdhinaaGreatDoor
open Go.ChangeShapes Go.WideShapes Go.ChangeAt Go.RowKit Go.Joins Go.Deep
set_option maxRecDepth 100000
set_option linter.unusedVariables false
set_option linter.unusedSimpArgs false
/-- Its numbers are what the machine can hold, and nothing is longer than the reach. -/
def Mr.I (x : Mr) : Prop := (I64 x.kind ∧ I64 x.fr ∧ I64 x.dst ∧ I64 x.term ∧ I64 x.ix ∧ I64 x.lt ∧ I64 x.cm ∧ I64 x.rd ∧ I64 x.off) ∧ (∀ y ∈ x.L, W64 y ∧ y.n ≤ reachBytes) ∧ x.nd ≤ reachBytes
section
variable {H : Type} {enc : TypeId × Value → H} {w : World} {base : Nat} {spare : Nat → Bool} {held : Bool} {fuel : Nat} {v : Value} {dd : DataW H} {pp : List MemPlace}
theorem in_msgs (h : DataW.trod enc Tryz.prog w base spare held fuel 70 [v] = some (dd, pp)) (hs : Sized Tryz.prog 70 dd) :
    ∃ A n c, ∃ L : List Mr, v = .slice A n c ∧ Rd w T 12 A n (flat mcell L) ∧ L.length = n ∧ n ≤ c ∧ c ≤ maxLen ∧ ∀ x ∈ L, x.At w T ∧ x.I := by
  obtain ⟨A, n, c, hv, hnc, hcm, haz, hrow⟩ := in_rows_sized Tryz.underlying70 Tryz.underlying72 (by kernel_rfl) (by kernel_rfl) (by simp) h hs
  obtain ⟨L, k1, k2, k3⟩ := rd_of_rows (A := A) (n := n) (w := w) mcell_len (by omega) (fun x : Mr => x.At w T ∧ x.I) (by
    intro i hi
    obtain ⟨b, o, cs, m, hA, hl, hc, hf⟩ := hrow i hi
    obtain ⟨u0, y0, g0, q0, -⟩ := hf 0 _ rfl
    obtain ⟨u1, y1, g1, q1, -⟩ := hf 1 _ rfl
    obtain ⟨u2, y2, g2, q2, -⟩ := hf 2 _ rfl
    obtain ⟨u3, y3, g3, q3, -⟩ := hf 3 _ rfl
    obtain ⟨u4, y4, g4, q4, -⟩ := hf 4 _ rfl
    obtain ⟨u5, y5, g5, q5, -⟩ := hf 5 _ rfl
    obtain ⟨u6, y6, g6, q6, -⟩ := hf 6 _ rfl
    obtain ⟨u7, y7, g7, q7, -⟩ := hf 7 _ rfl
    obtain ⟨u8, y8, g8, q8, -⟩ := hf 8 _ rfl
    obtain ⟨u9, y9, g9, q9, -⟩ := hf 9 _ rfl
    obtain ⟨u10, ⟨y10, p10⟩, g10, q10, s10⟩ := hf 10 _ rfl
    obtain ⟨u11, ⟨y11, p11⟩, g11, q11, s11⟩ := hf 11 _ rfl
    obtain ⟨z0, rfl, w0⟩ := in_int Tryz.underlying3 q0
    obtain ⟨z1, rfl, w1⟩ := in_int Tryz.underlying3 q1
    obtain ⟨z2, rfl, w2⟩ := in_int Tryz.underlying3 q2
    obtain ⟨z3, rfl, w3⟩ := in_int Tryz.underlying3 q3
    obtain ⟨z4, rfl, w4⟩ := in_int Tryz.underlying3 q4
    obtain ⟨z5, rfl, w5⟩ := in_int Tryz.underlying3 q5
    obtain ⟨z6, rfl, w6⟩ := in_int Tryz.underlying3 q6
    obtain ⟨z7, rfl, w7⟩ := in_int Tryz.underlying3 q7
    obtain ⟨z8, rfl⟩ := in_bool Tryz.underlying4 q8
    obtain ⟨z9, rfl, w9⟩ := in_int Tryz.underlying3 q9
    obtain ⟨D, nd, cd, data, rfl, r1, n1, n2, _⟩ := in_bytes Tryz.underlying26 Tryz.underlying5 (by kernel_rfl) q10
    have hsz := sized_ints Tryz.underlying26 Tryz.underlying5 (by kernel_rfl) (by kernel_rfl) q10 s10
    obtain ⟨E, ne, ce, LE, rfl, r2, _, n3, n4, _, dt, wt⟩ := in_ents_sized Tryz.underlying22 Tryz.underlying104 (by kernel_rfl) (by kernel_rfl) Tryz.underlying3 Tryz.underlying3 Tryz.underlying3 Tryz.underlying26 Tryz.underlying5 (by kernel_rfl) (by kernel_rfl) q11 s11
    refine ⟨⟨z0, z1, z2, z3, z4, z5, z6, z7, z8, z9, D, nd, cd, data, E, ne, ce, LE⟩, ⟨⟨r1, ⟨n1, n2⟩, r2, fun y hy => dt y hy, ⟨n3, n4⟩⟩, ⟨i64_of_wf w0, i64_of_wf w1, i64_of_wf w2, i64_of_wf w3, i64_of_wf w4, i64_of_wf w5, i64_of_wf w6, i64_of_wf w7, i64_of_wf w9⟩, wt, hsz⟩, b, o, hA, fun j u hj => ?_⟩
    match j, hj with
    | 0, hj => obtain rfl := Option.some.inj hj; exact hc 0 _ g0
    | 1, hj => obtain rfl := Option.some.inj hj; exact hc 1 _ g1
    | 2, hj => obtain rfl := Option.some.inj hj; exact hc 2 _ g2
    | 3, hj => obtain rfl := Option.some.inj hj; exact hc 3 _ g3
    | 4, hj => obtain rfl := Option.some.inj hj; exact hc 4 _ g4
    | 5, hj => obtain rfl := Option.some.inj hj; exact hc 5 _ g5
    | 6, hj => obtain rfl := Option.some.inj hj; exact hc 6 _ g6
    | 7, hj => obtain rfl := Option.some.inj hj; exact hc 7 _ g7
    | 8, hj => obtain rfl := Option.some.inj hj; exact hc 8 _ g8
    | 9, hj => obtain rfl := Option.some.inj hj; exact hc 9 _ g9
    | 10, hj => obtain rfl := Option.some.inj hj; exact hc 10 _ g10
    | 11, hj => obtain rfl := Option.some.inj hj; exact hc 11 _ g11)
  exact ⟨A, n, c, L, hv, k1, k2, hnc, hcm, k3⟩
end
end Go.Proofs.YtmhaahcbmdhinaaGreatDoor

namespace Go.Proofs.YtmhaahcbmdhinaaGreatDoor
open Go.RowKit
set_option maxRecDepth 100000
set_option linter.unusedVariables false
set_option linter.unusedSimpArgs false
def Mr.asVote (x : Mr) : Mr := { x with kind := 1, dst := 1 }
theorem Mr.At.asVote {x : Mr} {W : World} {ok : Nat → Prop} (h : x.At W ok) : x.asVote.At W ok := ⟨h.d, h.dk, h.e, h.ed, h.ek⟩
theorem i64_1 : I64 1 := by unfold I64; omega
theorem fit_vote {x : Mr} {W : World} {ok : Nat → Prop} (h : x.At W ok) (hi : x.I) (hl : longM x.asVote = false) : x.asVote.Fit := by
  unfold longM at hl
  rw [Bool.or_eq_false_iff] at hl
  have h1 := of_decide_eq_false hl.1
  have h2 := longB_no hl.2
  have h3 := h.e.flen ecell_len (by omega)
  obtain ⟨⟨i1, i2, i3, i4, i5, i6, i7, i8, i9⟩, j1, j2⟩ := hi
  have h1' : ¬ 10000 < x.nd := h1
  have h2' : x.L.length ≤ 200 := h2.1
  exact ⟨⟨i64_1, i2, i64_1, i4, i5, i6, i7, i8, i9⟩, fun y hy => ⟨(j1 y hy).1, by have := h2.2 y hy; omega⟩, by show x.nd ≤ 1000000; omega, by show x.ne ≤ 1000000; omega⟩
theorem fld_logV (s : Sv) (w : World) : (Instr.field 41 s.val 2).run Tryz.prog w = .ok (.agg #[.int .i64 s.b, .int .i64 s.t, .slice s.A s.n s.c]) w := by kernel_rfl
set_option maxHeartbeats 25600000 in
theorem votes_walk (s : Sv) (A : Option Addr) (n c : Nat) (L : List Mr) (W : World) (h : s.At W T) (hI : s.I) (hr : Rd W T 12 A n (flat mcell L)) (hL : ∀ x ∈ L, x.At W T ∧ x.I) (ht : TabW W) (hv : EvW W W.heap.size) :
    Calls Tryz.prog 5 #[s.val, .slice A n c] W (YesPost W) := by
  have he : Env W.heap.size W := ⟨W, rfl, hv, ht, Below.refl _ _⟩
  obtain ⟨W0, hW0⟩ : ∃ W0, W0 = W.alloc (.cells s.cells 28) := ⟨_, rfl⟩
  have b0 : Bx W0 W.heap.size s.cells := by subst hW0; exact Bx.new _ _ _ rfl
  have hb0 : Below W.heap.size W W0 := by subst hW0; exact (Below.refl _ _).alloc (Nat.le_refl _) _
  have k1 := h.k1
  have k2 := h.k2
  have k3 := h.k3
  unfold maxLen at k1 k2 k3
  have hlg := longs_any s.A s.n s.c s.L W0 (h.below hb0).l (fun x hx => (hI.2 x hx).2) (by omega)
  obtain ⟨lg, hlgv⟩ : ∃ lg, longB s.L = lg := ⟨_, rfl⟩
  rw [hlgv] at hlg
  have hrr := (hr.lt (by omega)).mono (ok' := (· < W.heap.size)) fun b hb => hb.2
  have H := Lib.hid (And.intro he (And.intro hb0 (And.intro h (And.intro hI (And.intro b0 (And.intro hrr hL))))))
  have HW := Lib.hid hW0
  have Hlg := Lib.hid hlg
  have Hlv := Lib.hid hlgv
  obtain ⟨c0, c1, c2, c3, c4, c5, c6⟩ := Sv.c7 b0
  clear he hb0 h hI b0 hW0 hlg hlgv ht hv hr hL hrr
  unfold Sv.val stA
  go_enter Tryz.func5, Tryz.ntmps5
  go_upto_region 1 with (fail)
  have HW' := HW.out
  unfold Sv.cells at HW'
  rw [← HW']
  clear HW'
  go_wp2_with fail
  refine Hlg.out.mono ?_
  rintro e w1 ⟨rfl, hb1⟩
  clear c0 c1 c2 c3 c4 c5 c6
  have en1 := H.out.1.new (H.out.2.1.trans (hb1.mono H.out.2.1.size))
  have B1 := Lib.hid (And.intro hb1 en1)
  clear hb1 en1
  obtain ⟨c0, c1, c2, c3, c4, c5, c6⟩ := Sv.c7 (H.out.2.2.2.2.1.below B1.out.1)
  have hsure := sure_any w1 B1.out.2
  have Hsure := Lib.hid hsure
  clear hsure
  have hcase : lg = true ∨ (lg = false ∧ decide ((5000 : Int) < (s.ns : Int)) = true) ∨ (lg = false ∧ decide ((5000 : Int) < (s.ns : Int)) = false ∧ decide ((100 : Int) < (s.nc : Int)) = true) ∨ (lg = false ∧ decide ((5000 : Int) < (s.ns : Int)) = false ∧ decide ((100 : Int) < (s.nc : Int)) = false) := by
    cases lg <;> cases decide ((5000 : Int) < (s.ns : Int)) <;> cases decide ((100 : Int) < (s.nc : Int)) <;> simp
  rcases hcase with rfl | ⟨rfl, g1⟩ | ⟨rfl, g1, g2⟩ | ⟨rfl, g1, g2⟩
  rotate_left 3
  · have hno := longB_no Hlv.out
    have hll := H.out.2.2.1.l.flen ecell_len (by omega)
    have hf : s.Fit := ⟨H.out.2.2.2.1.1, fun y hy => ⟨(H.out.2.2.2.1.2 y hy).1, by have := hno.2 y hy; omega⟩, by
      have g1' := of_decide_eq_false g1
      have g2' := of_decide_eq_false g2
      omega⟩
    have hW1 := H.out.2.1.trans (B1.out.1.mono H.out.2.1.size)
    have hgv := giveS_any s w1 (H.out.2.2.1.below hW1) hf
    have Hgv := Lib.hid hgv
    have F := Lib.hid (And.intro hf hW1)
    unfold Sv.val stA at Hgv
    clear hgv hf hW1 hno hll k1 k2 k3
    go_wp2_with fail
    refine Hgv.out.mono ?_
    intro e w2 h2
    obtain ⟨s2, rfl, a2, e2, f2, hb2⟩ := h2
    unfold Sv.val stA
    have hW2 := F.out.2.trans (hb2.mono F.out.2.size)
    have S2 := Lib.hid (And.intro a2 (And.intro e2 (And.intro f2 hW2)))
    clear a2 e2 f2 hb2 hW2 c0 c1 c2 c3 c4 c5 c6
    have hnw := new_ok 1 4 0 s2 w2 S2.out.1 S2.out.2.2.1 (H.out.1.new S2.out.2.2.2).ev (by omega) (by omega) (by omega) (by omega)
    unfold Sv.val stA at hnw
    have Hnw := Lib.hid hnw
    clear hnw
    by_cases hgood : s.st.may = true
    · have Hgd := Lib.hid hgood
      clear hgood
      go_wp2_with fail
      refine Hnw.out.mono ?_
      intro e w3 h3
      unfold NewPost at h3
      rw [if_pos (by rw [S2.out.2.1]; exact Hgd.out), S2.out.2.1] at h3
      obtain ⟨p, s3, rfl, b3, a3, e3, hp, m3, hb3⟩ := h3
      have hcx : CX W.heap.size w3 (p + 1) (fun b => b = p ∨ b = p + 1) (fun b => b = p ∨ b = p + 1) (Cr.new 1 4 0 s.st) (newMb p s3) := CX.ofNew S2.out.2.2.2.size b3 a3 e3 hp m3
      have hok : (Cr.new 1 4 0 s.st).Ok 1 := Cr.Ok.new Hgd.out (by
        have h1 := H.out.2.2.1.sn.blen
        have h2 := of_decide_eq_false g1
        show s.sn.length ≤ 1048576
        omega) (by omega) (by omega)
      have hW3 := S2.out.2.2.2.trans (hb3.mono S2.out.2.2.2.size)
      have hen3 := H.out.1.new hW3
      have hpw : W.heap.size ≤ p := Nat.le_trans S2.out.2.2.2.size hp
      have W3 := Lib.hid (And.intro hW3 (And.intro hcx (And.intro hok (And.intro hen3 hpw))))
      clear b3 a3 e3 hp m3 hb3 hcx hok hW3 hen3 hpw
      go_wp2_with fail
      go_loopg [7, 8, 9, 10, 11, 12, 13, 14, 15] 30 (fun gm s7 s8 s9 s10 s11 s12 s13 s14 s15 wr => ∃ i : Nat, gm = 30 - i ∧ i ≤ 30 ∧ s9 = .int .i64 i ∧ VI W.heap.size w3 (p + 1) (fun b => b = p ∨ b = p + 1) (fun b => b = p ∨ b = p + 1) i s7 s8 wr)
      case atStart => exact ⟨0, by omega, by omega, rfl, _, [], _, _, _, none, 0, none, 0, rfl, rfl, CTo.refl W3.out.2.1, W3.out.2.2.1, (fun g hg => by cases hg), Nat.le_refl _, Two.nil⟩
      case round =>
        obtain ⟨wo, hwo⟩ : ∃ wo, wo = wr := ⟨_, rfl⟩
        subst hwo
        obtain ⟨i, hm, hi, rfl, hVI⟩ := hrel
        obtain ⟨C, G, V, U, m, A7, c7, A8, c8, rfl, rfl, hto, hok, hgr, hgl, h2⟩ := hVI
        have hbW : Below W.heap.size W wo := W3.out.1.trans (Kept.below hto.kept (fun b hb => by rcases hb with rfl | rfl <;> have := W3.out.2.2.2.2 <;> omega) W3.out.1.size)
        have hen : Env W.heap.size wo := W3.out.2.2.2.1.kept hto.kept W3.out.2.1.vf
        have R := Lib.hid (And.intro hto (And.intro hok (And.intro hgr (And.intro hgl (And.intro h2 (And.intro hbW hen))))))
        have Hm := Lib.hid hm
        clear hm hto hok hgr hgl h2 hbW hen
        by_cases hin : i < n
        · have hinI : decide ((i : Int) < (n : Int)) = true := decide_eq_true (by omega)
          by_cases hlt : i < 30
          · have hltI : decide ((i : Int) < 30) = true := decide_eq_true (by omega)
            have hin0 : (i : Int) < (n : Int) := by omega
            have h0i : (0 : Int) ≤ (i : Int) := by omega
            obtain ⟨b, o, x, rfl, hbo, hbl, hx, hc⟩ := (H.out.2.2.2.2.2.1.below R.out.2.2.2.2.2.1).fat mcell_len (by omega) hin
            have hxm : x ∈ L := List.mem_of_getElem? hx
            have hxA := H.out.2.2.2.2.2.2 x hxm
            have hrg : wo.rangeAt b (o + i * 12) (mcell x) := fun j v hv => by rw [Nat.add_assoc]; exact hc j v hv
            have X := Lib.hid (And.intro hxA.1 hxA.2)
            have Hrg := Lib.hid hrg
            clear hx hc hxm hxA hrg hbo hbl
            unfold mcell at Hrg
            go_upto_region 10 with (fail)
            refine wp_region_lit ?_
            refine BigFrame.wpList_want (by rfl) (fun K hK => ?_)
            go_simp
            refine hK _ _ ?_
            clear hK K
            try simp only [Act.put, List.setIfInBounds_toArray, List.set_cons_zero, List.set_cons_succ]
            refine BigFrame.wpList_want (by rfl) (fun K hK => ?_)
            go_simp
            refine hK _ _ ?_
            clear hK K
            try simp only [Act.put, List.setIfInBounds_toArray, List.set_cons_zero, List.set_cons_succ]
            refine BigFrame.wpList_want (by rfl) (fun K hK => ?_)
            go_simp
            refine hK _ _ ?_
            clear hK K
            try simp only [Act.put, List.setIfInBounds_toArray, List.set_cons_zero, List.set_cons_succ]
            refine wpList_load_mid rfl _ _ rfl _ _ rfl _ _ Hrg.out Tryz.underlying72 rfl (by kernel_rfl) ?_
            go_upto_region 11 with (fail)
            obtain ⟨W4, hW4⟩ : ∃ W4, W4 = wo.alloc (.cells x.cells 72) := ⟨_, rfl⟩
            have b4 : Bx W4 wo.heap.size x.cells := by subst hW4; exact Bx.new _ _ _ rfl
            have hb4 : Below wo.heap.size wo W4 := by subst hW4; exact (Below.refl _ _).alloc (Nat.le_refl _) _
            have hz4 : W4.heap.size = wo.heap.size + 1 := by subst hW4; simp
            have HW4 := hW4
            unfold Mr.cells at HW4
            rw [← HW4]
            have q0 := b4.c 0
            have q2 := b4.c 2
            have f0 := b4.f 0
            have f2 := b4.f 2
            unfold Mr.cells at q0 q2
            have q0' : W4.cell? ⟨wo.heap.size, 0, none⟩ = some (.int .i64 x.kind) := q0
            have q2' : W4.cell? ⟨wo.heap.size, 2, none⟩ = some (.int .i64 x.dst) := q2
            clear q0 q2 hW4 HW4
            go_upto_region 12 with (fail)
            obtain ⟨w4, hw4⟩ : ∃ w4, w4 = (W4.setCell ⟨wo.heap.size, 0, none⟩ (.int .i64 1)).setCell ⟨wo.heap.size, 2, none⟩ (.int .i64 1) := ⟨_, rfl⟩
            have x4 : Bx w4 wo.heap.size x.asVote.cells := by rw [hw4]; exact (b4.set 0 _).set 2 _
            have hbe4 : Below wo.heap.size wo w4 := by rw [hw4]; exact (hb4.setCell (p := ⟨wo.heap.size, 0, none⟩) (Nat.le_refl _) _).setCell (p := ⟨wo.heap.size, 2, none⟩) (Nat.le_refl _) _
            rw [← hw4]
            clear hw4 b4 hb4 hz4 f0 f2 q0' q2'
            obtain ⟨y, hy⟩ : ∃ y, x.asVote = y := ⟨_, rfl⟩
            have hyA : ∀ w', Below wo.heap.size wo w' → y.At w' T := fun w' hb => by rw [← hy]; exact (X.out.1.below (R.out.2.2.2.2.2.1.trans (hb.mono R.out.2.2.2.2.2.1.size))).asVote
            have hyk : y.kind = 1 := by rw [← hy]; rfl
            have hyr : ∀ w', Below w4.heap.size w4 w' → w'.rangeAt wo.heap.size 0 (mcell y) := fun w' hb => by rw [← hy]; exact Mr.rng (x4.below hb)
            have hyc := fun w' (hb : Below w4.heap.size w4 w') => Mr.c12 (x4.below hb)
            rw [hy] at hyc
            have hlong := longM_any y w4 (hyA w4 hbe4) (by rw [← hy]; exact fun z hz => (X.out.2.2.1 z hz).2)
            obtain ⟨lm, hlm⟩ : ∃ lm, longM y = lm := ⟨_, rfl⟩
            rw [hlm] at hlong
            have hfit : lm = false → y.Fit := fun e => by rw [← hy]; exact fit_vote X.out.1 X.out.2 (by rw [hy, hlm]; exact e)
            have hbx4 : Bx w4 wo.heap.size y.cells := by rw [← hy]; exact x4
            have Y := Lib.hid (And.intro hyA (And.intro hyk (And.intro hyr (And.intro hyc (And.intro hfit hbe4)))))
            have YB := Lib.hid hbx4
            clear hbx4
            have Hlong := Lib.hid hlong
            have vY : y.val = .agg (mcell y).toArray := rfl
            rw [vY] at Hlong
            have VY := Lib.hid vY
            unfold mcell at Hlong
            clear hy hyA hyk hlong hlm hfit x4 hbe4 hyc vY
            have hr0 := hyr w4 (Below.refl _ _)
            have Hr0 := Lib.hid hr0
            unfold mcell at Hr0
            clear hyr hr0
            refine wp_region_lit ?_
            refine wpList_load_mid rfl _ _ rfl _ _ rfl _ _ Hr0.out Tryz.underlying72 rfl (by kernel_rfl) ?_
            refine BigFrame.wpList_want (by rfl) (fun K hK => ?_)
            go_simp
            go_at_call 24
            refine (Hlong.out).mono ?_
            rintro e w5 ⟨rfl, hb5⟩
            refine hK _ _ ?_
            clear hK K
            try simp only [Act.put, List.setIfInBounds_toArray, List.set_cons_zero, List.set_cons_succ]
            have B5 := Lib.hid (And.intro hb5 (Y.out.2.2.2.2.2.trans (hb5.mono Y.out.2.2.2.2.2.size)))
            clear hb5
            have next : Hid (∀ w', Below wo.heap.size wo w' → VI W.heap.size w3 (p + 1) (fun b => b = p ∨ b = p + 1) (fun b => b = p ∨ b = p + 1) (i + 1) (.slice A7 G.length c7) (.slice A8 G.length c8) w') := Lib.hid fun w' hb =>
              ⟨C, G, V, U, m, A7, c7, A8, c8, rfl, rfl, R.out.1.below hb, R.out.2.1, R.out.2.2.1, by have := R.out.2.2.2.1; omega, R.out.2.2.2.2.1.below hb⟩
            cases lm with
            | true =>
              go_wp2_with fail
              go_roundg (30 - (i + 1))
              case measure => have := Hm.out; omega
              case rel => exact ⟨i + 1, rfl, by omega, by go_num, next.out _ B5.out.2⟩
            | false =>
              have fY := Lib.hid (Y.out.2.2.2.2.1 rfl)
              have hrr5 := Y.out.2.2.1 w5 B5.out.1
              have Hr5 := Lib.hid hrr5
              unfold mcell at Hr5
              have hmay := mayMsg_any y w5 (Y.out.1 w5 B5.out.2) fY.out.z.2
              rw [VY.out] at hmay
              unfold mcell at hmay
              obtain ⟨ym, hym⟩ : ∃ q, y.ms.may = q := ⟨_, rfl⟩
              rw [hym] at hmay
              have Hmay := Lib.hid hmay
              clear hrr5 hmay
              refine BigFrame.wpList_want (by rfl) (fun K hK => ?_)
              go_simp
              refine hK _ _ ?_
              clear hK K
              try simp only [Act.put, List.setIfInBounds_toArray, List.set_cons_zero, List.set_cons_succ]
              refine BigFrame.wpList_want (by rfl) (fun K hK => ?_)
              refine wp_load_mid 72 _ rfl wo.heap.size 0 (by rfl) _ _ Hr5.out Tryz.underlying72 rfl (by kernel_rfl) ?_
              refine hK _ _ ?_
              clear hK K
              try simp only [Act.put, List.setIfInBounds_toArray, List.set_cons_zero, List.set_cons_succ]
              go_wp2_with fail
              refine Hmay.out.mono ?_
              rintro e w6 ⟨rfl, hb6⟩
              have B6 := Lib.hid (And.intro (B5.out.1.trans (hb6.mono B5.out.1.size)) (B5.out.2.trans (hb6.mono B5.out.2.size)))
              clear hb6
              cases ym with
              | false =>
                go_wp2_with fail
                go_roundg (30 - (i + 1))
                case measure => have := Hm.out; omega
                case rel => exact ⟨i + 1, rfl, by omega, by go_num, next.out _ B6.out.2⟩
              | true =>
                have hcx6 := R.out.1.cx.below B6.out.2
                have hst := stored_any hcx6 R.out.2.1
                have hfit := R.out.1.cx.fit R.out.2.1
                have hfo := fun (s' : Sv) (W' : World) (ok : Nat → Prop) (ha : s'.At W' ok) (e : s'.st = C.s) => Sv.fit_of ha R.out.1.cx.at_ hfit (e.trans R.out.1.cx.st.symm)
                have FO := Lib.hid hfo
                have Hst := Lib.hid hst
                clear hst hfit hfo hcx6
                go_wp2_with fail
                refine Hst.out.mono ?_
                intro e w7 h7
                obtain ⟨s7, rfl, a7, e7, hb7⟩ := h7
                have ff7 := FO.out s7 w7 _ a7 e7
                have hla := LastA_any s7.b s7.t s7.A s7.n s7.c s7.L w7 a7.l (a7.wel ff7) ff7.z.1
                have em : s7.b = C.s.b ∧ s7.t = C.s.t ∧ s7.L.map en = C.s.l := ⟨congrArg St.b e7, congrArg St.t e7, congrArg St.l e7⟩
                rw [em.1, em.2.1, em.2.2, if_pos (St.may_iff R.out.2.1.may).1, if_pos (St.may_iff R.out.2.1.may).1] at hla
                obtain ⟨lA, hlA⟩ : ∃ z, lstA C.s.b C.s.l = z := ⟨_, rfl⟩
                obtain ⟨lB, hlB⟩ : ∃ z, lstB C.s.t C.s.l = z := ⟨_, rfl⟩
                rw [hlA, hlB, ← em.1, ← em.2.1] at hla
                have Hla := Lib.hid hla
                have LL := Lib.hid (And.intro hlA hlB)
                have B7 := Lib.hid (And.intro (B6.out.1.trans (hb7.mono B6.out.1.size)) (B6.out.2.trans (hb7.mono B6.out.2.size)))
                have hfl := fld_logV s7
                clear a7 e7 ff7 hla em hlA hlB hb7
                go_wp2_with fail
                refine Hla.out.mono ?_
                unfold TwoInt
                rintro e w8 ⟨rfl, hb8⟩
                have B8 := Lib.hid (And.intro (B7.out.1.trans (hb8.mono B7.out.1.size)) (B7.out.2.trans (hb8.mono B7.out.2.size)))
                clear hb8 hfl
                have hrr8 := Y.out.2.2.1 w8 B8.out.1
                have Hr8 := Lib.hid hrr8
                unfold mcell at Hr8
                have hgm := giveM_any y w8 (Y.out.1 w8 B8.out.2) fY.out
                rw [VY.out] at hgm
                unfold mcell at hgm
                have Hgm := Lib.hid hgm
                clear hrr8 hgm
                go_upto_region 14 with (fail)
                refine wp_region_lit ?_
                refine BigFrame.wpList_want (by rfl) (fun K hK => ?_)
                go_simp
                refine hK _ _ ?_
                clear hK K
                try simp only [Act.put, List.setIfInBounds_toArray, List.set_cons_zero, List.set_cons_succ]
                refine wpList_load_mid rfl _ _ rfl _ _ rfl _ _ Hr8.out Tryz.underlying72 rfl (by kernel_rfl) ?_
                go_wp2_with fail
                refine Hgm.out.mono ?_
                intro e w9 h9
                obtain ⟨y9, rfl, a9, s9, n9, d9, hb9⟩ := h9
                have B9 := Lib.hid (And.intro (B8.out.1.trans (hb9.mono B8.out.1.size)) (B8.out.2.trans (hb9.mono B8.out.2.size)))
                have hto9 := R.out.1.below B9.out.2
                have hul : ∀ b, U b → b < w8.heap.size := fun b hb => Nat.lt_of_lt_of_le (R.out.1.cx.ul b hb) B8.out.2.size
                have a9' : y9.At w9 (fun b => ¬ U b) := a9.mono fun b hb hu => by have := hul b hu; have h9 : w8.heap.size ≤ b := hb; omega
                have k9 : y9.kind = 1 := by have e := congrArg Ms.kind s9; have e : y9.kind = y.kind := e; rw [e]; exact Y.out.2.1
                have hst := step_any y9 0 0 hto9.cx R.out.2.1 (R.out.2.2.2.2.2.2.new B9.out.2) a9' (by rw [n9]; exact fY.out.z.2) (fun _ e => by omega) (fun _ e => by omega) (fun _ e => by omega) (fun _ e => by omega)
                have hvs := vote_step R.out.2.2.1 y9.ms 0 k9
                have hok := R.out.2.1.stepVote y9.ms 0 0 k9
                have hval9 : y9.val = .agg (mcell y9).toArray := rfl
                rw [s9] at hst hvs hok
                obtain ⟨r, hrr⟩ : ∃ r, C.step y.ms 0 0 = r := ⟨_, rfl⟩
                rw [hrr] at hst hvs hok
                rw [LL.out.1, LL.out.2] at hvs
                have Hst9 := Lib.hid hst
                have VS := Lib.hid (And.intro hvs hok)
                have T9 := Lib.hid hto9
                clear hst hvs hok hto9 a9 a9' k9 s9 n9 d9 hul hb9 hrr hval9
                go_wp2_with fail
                refine Hst9.out.mono ?_
                intro e w10 h10
                obtain ⟨A13, n13, c13, X13, V13, U13, m13, rfl, r13, x13, u13, t13⟩ := h10
                have two10 : Two w3.heap.size w10 V13 U13 A7 c7 A8 c8 G := (R.out.2.2.2.2.1.below B9.out.2).to t13.kept t13.vs t13.us T9.out.cx.ul
                have hto10 := T9.out.trans t13
                have hne : ¬ V wo.heap.size := fun hv => by have := R.out.1.cx.ul _ (R.out.1.cx.vu _ hv); omega
                have hy9 := YB.out.below B9.out.1
                have hy10 : Bx w10 wo.heap.size y.cells := hy9.keep (t13.kept.block _ hy9.lt hne)
                have hwo10 : Below W.heap.size W w10 := (R.out.2.2.2.2.2.1.trans (B9.out.2.mono R.out.2.2.2.2.2.1.size)).trans (Kept.below t13.kept (fun b hb => R.out.1.cx.vf b hb) (R.out.2.2.2.2.2.1.trans (B9.out.2.mono R.out.2.2.2.2.2.1.size)).size |>.mono (Nat.le_refl _))
                have Z := Lib.hid (And.intro two10 (And.intro hto10 (And.intro hy10 hwo10)))
                have M13 := Lib.hid (And.intro r13 u13)
                clear two10 hto10 hne hy9 hy10 hwo10 t13 r13 u13
                rcases VS.out.1 with ⟨er, hg⟩ | ⟨M, er, mk, hcs⟩
                · rw [er] at x13
                  have hX : X13 = [] := List.eq_nil_of_length_eq_zero (by have := congrArg List.length x13; simpa using this)
                  subst hX
                  have hn13 := M13.out.1.len
                  simp at hn13
                  subst hn13
                  have nx10 : Hid (VI W.heap.size w3 (p + 1) (fun b => b = p ∨ b = p + 1) (fun b => b = p ∨ b = p + 1) (i + 1) (.slice A7 G.length c7) (.slice A8 G.length c8) w10) := Lib.hid ⟨r.1, G, V13, U13, m13, A7, c7, A8, c8, rfl, rfl, Z.out.2.1, VS.out.2, hg, by have := R.out.2.2.2.1; omega, Z.out.1⟩
                  clear er hg x13
                  go_wp2_with fail
                  go_loopg [7, 8, 14, 15] 1 (fun gm s7 s8 s14 s15 wq => s14 = .int .i64 0 ∧ s7 = .slice A7 G.length c7 ∧ s8 = .slice A8 G.length c8 ∧ wq = w10)
                  case atStart => exact ⟨rfl, rfl, rfl, rfl⟩
                  case round =>
                    obtain ⟨rfl, rfl, rfl, rfl⟩ := hrel
                    go_wp2_with fail
                    go_roundg (30 - (i + 1))
                    case measure => have := Hm.out; omega
                    case rel => exact ⟨i + 1, rfl, by omega, by go_num, nx10.out⟩
                · rw [er] at x13
                  obtain ⟨z, hz⟩ : ∃ z, X13 = [z] := List.length_eq_one_iff.1 (by have := congrArg List.length x13; simpa using this)
                  subst hz
                  have hzM : z.ms = M := by simpa using x13
                  have hn13 := M13.out.1.len
                  simp at hn13
                  subst hn13
                  have XM := Lib.hid (And.intro hzM (And.intro mk hcs))
                  clear er x13 hzM mk hcs
                  go_wp2_with fail
                  go_loopg [7, 8, 14, 15] 1 (fun gm s7 s8 s14 s15 wq => ∃ k : Nat, gm = 1 - k ∧ k ≤ 1 ∧ s14 = .int .i64 k ∧ ((k = 0 ∧ s7 = .slice A7 G.length c7 ∧ s8 = .slice A8 G.length c8 ∧ wq = w10) ∨ (k = 1 ∧ VI W.heap.size w3 (p + 1) (fun b => b = p ∨ b = p + 1) (fun b => b = p ∨ b = p + 1) (i + 1) s7 s8 wq)))
                  case atStart => exact ⟨0, rfl, by omega, rfl, .inl ⟨rfl, rfl, rfl, rfl⟩⟩
                  case round =>
                    obtain ⟨k, hkm, hk, rfl, hcase⟩ := hrel
                    have Hkm := Lib.hid hkm
                    clear hkm
                    rcases hcase with ⟨hk0, rfl, rfl, rfl⟩ | ⟨hk1, hVI⟩
                    · have hkI : decide ((k : Int) < 1) = true := decide_eq_true (by omega)
                      have hkn : (k : Int) < 1 := by omega
                      have h0k : (0 : Int) ≤ (k : Int) := by omega
                      have hrd := Rd.of_own M13.out.1.ow
                      obtain ⟨b13, o13, z', rfl, _, hb13, hz', hc⟩ := hrd.fat mcell_len (by omega) (i := k) (by omega)
                      obtain rfl : z' = z := by rw [hk0] at hz'; simpa using hz'.symm
                      have hcz : ∀ j v, (mcell z')[j]? = some v → wr.cell? ⟨b13, o13 + k * 12 + j, none⟩ = some v := fun j v hj => by rw [Nat.add_assoc]; exact hc j v hj
                      have z0 : wr.cell? ⟨b13, o13 + k * 12, none⟩ = some (.int .i64 z'.kind) := hcz 0 _ rfl
                      have z2 : wr.cell? ⟨b13, o13 + k * 12 + 2, none⟩ = some (.int .i64 z'.dst) := hcz 2 _ rfl
                      have z3 : wr.cell? ⟨b13, o13 + k * 12 + 3, none⟩ = some (.int .i64 z'.term) := hcz 3 _ rfl
                      have z8 : wr.cell? ⟨b13, o13 + k * 12 + 8, none⟩ = some (.bool z'.ok) := hcz 8 _ rfl
                      obtain ⟨y0, y1, y2, y3, y4, y5, -⟩ := Mr.c12 Z.out.2.2.1
                      have hzk : z'.kind = 2 := by have e := congrArg Ms.kind XM.out.1; have e : z'.kind = M.kind := e; rw [e]; exact XM.out.2.1
                      have hzo : z'.ok = M.ok := congrArg Ms.ok XM.out.1
                      have hzt : z'.term = M.term := congrArg Ms.term XM.out.1
                      have hzd : z'.dst = M.dst := congrArg Ms.dst XM.out.1
                      rw [hzk] at z0
                      have K0 := Lib.hid hk0
                      have Hb13 := Lib.hid hb13
                      clear hrd hz' hc hcz hzk hk0 hb13
                      rcases XM.out.2.2 with ⟨mo, hg⟩ | ⟨mo, n1, n2, mt, md, hgs, hg⟩
                      · rw [hzo, mo] at z8
                        have nx10 : Hid (VI W.heap.size w3 (p + 1) (fun b => b = p ∨ b = p + 1) (fun b => b = p ∨ b = p + 1) (i + 1) (.slice A7 G.length c7) (.slice A8 G.length c8) wr) := Lib.hid ⟨r.1, G, V13, U13, m13, A7, c7, A8, c8, rfl, rfl, Z.out.2.1, VS.out.2, hg, by have := R.out.2.2.2.1; omega, Z.out.1⟩
                        clear hg mo hzo hzt hzd
                        go_wp2_with fail
                        go_roundg (1 - (k + 1))
                        case measure => have := Hkm.out; omega
                        case rel => exact ⟨k + 1, rfl, by omega, by go_num, .inr ⟨by have := K0.out; omega, nx10.out⟩⟩
                      · rw [hzo, mo] at z8
                        rw [hzt, mt] at z3
                        rw [hzd, md] at z2
                        have e3 : (y.term != y.term) = false := by simp
                        have e1 : (y.fr != y.fr) = false := by simp
                        have elt : decide (y.lt < lB) = false := decide_eq_false (show ¬ y.ms.lt < lB by omega)
                        have y3' : y.ms.term = y.term := rfl
                        have y1' : y.ms.fr = y.fr := rfl
                        rw [y3'] at z3
                        rw [y1'] at z2
                        have GG := Lib.hid (And.intro hgs hg)
                        have EQ := Lib.hid (And.intro n1 n2)
                        clear hgs hg hzo hzt hzd mo mt md n1 n2 y3' y1'
                        obtain ⟨wp, hwp⟩ : ∃ wp, wp = wr := ⟨_, rfl⟩
                        subst hwp
                        have Fc : Hid (∀ w', Below wp.heap.size wp w' → (w'.cell? ⟨wo.heap.size, 1, none⟩ = some (.int .i64 y.fr) ∧ w'.cell? ⟨wo.heap.size, 3, none⟩ = some (.int .i64 y.term) ∧ w'.cell? ⟨wo.heap.size, 4, none⟩ = some (.int .i64 y.ix) ∧ w'.cell? ⟨wo.heap.size, 5, none⟩ = some (.int .i64 y.lt)) ∧ w'.cell? ⟨b13, o13 + k * 12 + 2, none⟩ = some (.int .i64 y.fr) ∧ w'.cell? ⟨b13, o13 + k * 12 + 3, none⟩ = some (.int .i64 y.term)) := Lib.hid fun w' hb =>
                          ⟨⟨(Z.out.2.2.1.below hb).c 1, (Z.out.2.2.1.below hb).c 3, (Z.out.2.2.1.below hb).c 4, (Z.out.2.2.1.below hb).c 5⟩, (hb.cell (p := ⟨b13, o13 + k * 12 + 2, none⟩) Hb13.out).trans z2, (hb.cell (p := ⟨b13, o13 + k * 12 + 3, none⟩) Hb13.out).trans z3⟩
                        have hwz : wo.heap.size < wp.heap.size := Z.out.2.2.1.lt
                        go_upto_region 19 with (fail)
                        go_cut [131] (fun s131 W' => s131 = .bool false ∧ Below wp.heap.size wp W')
                        case first =>
                          clear y0 y2 z0 z8
                          have hq : (y.lt == lB) = false ∨ ((y.lt == lB) = true ∧ decide (y.ix < lA) = false) := by
                            by_cases e : y.lt = lB
                            · exact .inr ⟨by simpa using e, decide_eq_false fun h9 => EQ.out.2 ⟨e, h9⟩⟩
                            · exact .inl (by simpa using e)
                          rcases hq with q1 | ⟨q1, q2⟩
                          · refine wp_region_S 35 (fun W' => Below wp.heap.size wp W') (.take 0 (.take 1 (.take 2 (.take 3 (.take 4 (.take 5 (.take 6 (.take 7 (.take 8 (.take 9 (.take 10 (.take 11 (.take 12 (.take 13 (.take 14 (.take 15 (.take 16 (.take 17 (.take 18 (.take 19 (.take 20 (.take 21 (.take 22 (.take 23 (.take 24 (.take 25 (.take 26 (.take 27 (.take 28 (.take 29 (.take 30 (.take 31 (.take 32 (.take 33 (.take 34 (.one 35 (.nil))))))))))))))))))))))))))))))))))))) (by kernel_rfl) (Below.refl _ _).drew (fun _ _ _ _ h => h) (fun hS => ?_)
                            repeat (first
                              | (refine wpS_take (v := ?_) rfl rfl (by rfl) ?_ ?_; rotate_left; (intro W hW; have hf := Fc.out W hW; go_split_ands; go_simp; try with_reducible rfl); try simp only [Act.put, List.setIfInBounds_toArray, List.set_cons_zero, List.set_cons_succ])
                              | (refine wpS_skip rfl rfl (by rfl) ?_; try simp only [Act.put, List.setIfInBounds_toArray, List.set_cons_zero, List.set_cons_succ]))
                            refine wpS_last rfl (by rfl) (fun K hK => ?_)
                            go_simp
                            refine hK _ _ ?_
                            clear hK K
                            try simp only [Act.put, List.setIfInBounds_toArray, List.set_cons_zero, List.set_cons_succ]
                            refine wpS_nil ?_
                            go_wp2_with fail
                            go_meet
                            case rel => exact ⟨rfl, (Below.refl _ _).drew⟩
                          · refine wp_region_S 35 (fun W' => Below wp.heap.size wp W') (.take 0 (.take 1 (.take 2 (.take 3 (.take 4 (.take 5 (.take 6 (.take 7 (.take 8 (.take 9 (.take 10 (.take 11 (.take 12 (.take 13 (.take 14 (.take 15 (.take 16 (.take 17 (.take 18 (.take 19 (.take 20 (.take 21 (.take 22 (.take 23 (.take 24 (.take 25 (.take 26 (.take 27 (.take 28 (.take 29 (.take 30 (.take 31 (.take 32 (.take 33 (.take 34 (.one 35 (.nil))))))))))))))))))))))))))))))))))))) (by kernel_rfl) (Below.refl _ _).drew (fun _ _ _ _ h => h) (fun hS => ?_)
                            repeat (first
                              | (refine wpS_take (v := ?_) rfl rfl (by rfl) ?_ ?_; rotate_left; (intro W hW; have hf := Fc.out W hW; go_split_ands; go_simp; try with_reducible rfl); try simp only [Act.put, List.setIfInBounds_toArray, List.set_cons_zero, List.set_cons_succ])
                              | (refine wpS_skip rfl rfl (by rfl) ?_; try simp only [Act.put, List.setIfInBounds_toArray, List.set_cons_zero, List.set_cons_succ]))
                            refine wpS_last rfl (by rfl) (fun K hK => ?_)
                            go_simp
                            refine hK _ _ ?_
                            clear hK K
                            try simp only [Act.put, List.setIfInBounds_toArray, List.set_cons_zero, List.set_cons_succ]
                            refine wpS_nil ?_
                            go_wp2_with fail
                            go_meet
                            case rel => exact ⟨rfl, (Below.refl _ _).drew⟩
                        case rest =>
                          obtain ⟨rfl, hbc⟩ := hcut
                          obtain ⟨w11, hw11⟩ : ∃ w11, w11 = wc := ⟨_, rfl⟩
                          rw [← hw11] at hbc ⊢
                          clear hw11
                          have BC := Lib.hid hbc
                          have two11 := Z.out.1.below hbc
                          have T11 := Lib.hid two11
                          clear hbc two11 y0 y1 y2 y3 y4 y5 z0 z2 z3 z8 e3 e1 elt
                          go_wp2_with fail
                          go_loopg [15] G.length (fun gm s15 wq => ∃ j : Nat, gm = G.length - j ∧ j ≤ G.length ∧ s15 = .int .i64 j ∧ Below w11.heap.size w11 wq)
                          case atStart => exact ⟨0, by omega, by omega, rfl, Below.refl _ _⟩
                          case round =>
                            obtain ⟨j, hjm, hj, rfl, hb12⟩ := hrel
                            have Hjm := Lib.hid hjm
                            clear hjm
                            by_cases hjl : j < G.length
                            · have hjI : decide ((j : Int) < (G.length : Int)) = true := decide_eq_true (by omega)
                              have hjn : (j : Int) < (G.length : Int) := by omega
                              have h0j : (0 : Int) ≤ (j : Int) := by omega
                              obtain ⟨b7, o7, t7, rfl, _, _, ht7, hc7⟩ := ii_cell (Rd.of_own (own_below T11.out.o7 hb12)) hjl
                              obtain ⟨b8, o8, t8, rfl, _, _, ht8, hc8⟩ := ii_cell (Rd.of_own (own_below T11.out.o8 hb12)) hjl
                              obtain ⟨⟨y1, y3, -, -⟩, -, -⟩ := Fc.out wr (BC.out.trans (hb12.mono BC.out.size))
                              obtain ⟨gj, hgj⟩ : ∃ g, G[j]? = some g := ⟨_, List.getElem?_eq_getElem hjl⟩
                              rw [List.getElem?_map, hgj] at ht7 ht8
                              obtain rfl : gj.1 = t7 := by simpa using ht7
                              obtain rfl : gj.2 = t8 := by simpa using ht8
                              have hgg := GG.out.1 gj (List.mem_of_getElem? hgj)
                              have Hb12 := Lib.hid hb12
                              have hjw : IntKind.i64.wrap ((j : Int) + 1) = (j : Int) + 1 := by rw [IntKind.wrap_i64]; have := R.out.2.2.2.1; omega
                              clear ht7 ht8 hgj hb12
                              by_cases hte : gj.1 = y.term
                              · have ht1 : (gj.1 == y.term) = true := by simpa using hte
                                have ht2 : (gj.2 != y.fr) = false := by have : gj.2 = y.fr := hgg hte; rw [this]; simp
                                clear hgg hte
                                go_wp2_with fail
                                go_region
                                all_goals
                                  go_wp2_with fail
                                  go_roundg (G.length - (j + 1))
                                  case measure => have := Hjm.out; omega
                                  case rel => exact ⟨j + 1, rfl, by omega, by go_num, Hb12.out.drew⟩
                              · have ht1 : (gj.1 == y.term) = false := by simpa using hte
                                clear hgg hte
                                go_wp2_with fail
                                go_region
                                all_goals
                                  go_wp2_with fail
                                  go_roundg (G.length - (j + 1))
                                  case measure => have := Hjm.out; omega
                                  case rel => exact ⟨j + 1, rfl, by omega, by go_num, Hb12.out.drew⟩
                            · obtain rfl : j = G.length := by omega
                              have hjI : decide ((G.length : Int) < (G.length : Int)) = false := decide_eq_false (by omega)
                              obtain ⟨⟨y1, y3, -, -⟩, -, -⟩ := Fc.out wr (BC.out.trans (hb12.mono BC.out.size))
                              have hgl := R.out.2.2.2.1
                              have hz12 : w3.heap.size ≤ wr.heap.size := by have := Z.out.2.1.kept.size; have := BC.out.size; have := hb12.size; omega
                              have hyl : wo.heap.size < wr.heap.size := World.block_lt_of_cell? wr _ y1
                              go_upto_region 27 with (at_builtin; go_must (refine wpList_append_any (news := ii [y.term]) _ Tryz.underlying25 int_elem rfl (by omega) rfl rfl rfl (own_below (own_below T11.out.o7 hb12) ((Below.refl _ _).alloc (Nat.le_refl _) _)) rfl (show Rd _ _ 1 _ 1 (ii [y.term]) from Rd.lit rfl) (ii_one _) (by omega) (by simp; omega) rfl rfl ?_); intro A7' c7' w12 o12 g12 a12)
                              have hwr := (Below.refl wr.heap.size wr).alloc (Nat.le_refl _) (.cells #[.int .i64 y.term] 3)
                              have hbb : Below w11.heap.size w11 (wr.alloc (.cells #[.int .i64 y.term] 3)) := hb12.trans (hwr.mono hb12.size)
                              obtain ⟨o8', hbx⟩ := T11.out.mid hbb g12
                              have y1'' : w12.cell? ⟨wo.heap.size, 1, none⟩ = some (.int .i64 y.fr) := (hbx _ _ (Z.out.2.2.1.below BC.out) fun e => by
                                have h1 := R.out.1.cx.ul _ (R.out.2.2.2.2.1.u7 _ e).1
                                omega).c 1
                              have hz12' : w3.heap.size ≤ w12.heap.size := by have h1 := g12.size; have h2 := hwr.size; omega
                              have D12 := Lib.hid (And.intro o12 (And.intro g12 (And.intro a12 hbb)))
                              clear o12 g12 a12 hbb hbx
                              go_wp2_with (at_builtin; go_must (refine wpList_append_any (news := ii [y.fr]) _ Tryz.underlying25 int_elem rfl (by omega) rfl rfl rfl (own_below o8' ((Below.refl _ _).alloc (Nat.le_refl _) _)) rfl (show Rd _ _ 1 _ 1 (ii [y.fr]) from Rd.lit rfl) (ii_one _) (by omega) (by simp; omega) rfl rfl ?_); intro A8' c8' w13 o13' g13 a13)
                              obtain ⟨U9, hto9, two9⟩ := Two.push (t := y.term) (f := y.fr) (Z.out.2.1.below BC.out) T11.out (by have := W3.out.1.size; omega) rfl D12.out.2.2.2 D12.out.1 D12.out.2.1 D12.out.2.2.1 ((Below.refl _ _).alloc (Nat.le_refl _) _) o13' g13 a13
                              have hlen : (G ++ [(y.term, y.fr)]).length = G.length + 1 := by simp
                              have HV := Lib.hid (show VI W.heap.size w3 (p + 1) (fun b => b = p ∨ b = p + 1) (fun b => b = p ∨ b = p + 1) (i + 1) (.slice A7' (G.length + 1) c7') (.slice A8' (G.length + 1) c8') w13 from
                                ⟨r.1, G ++ [(y.term, y.fr)], V13, U9, m13, A7', c7', A8', c8', by rw [hlen], by rw [hlen], hto9, VS.out.2, GG.out.2, by rw [hlen]; omega, two9⟩)
                              clear o13' g13 a13 hto9 two9 hlen o8' D12
                              go_roundg (1 - (k + 1))
                              case measure => have := Hkm.out; omega
                              case rel => exact ⟨k + 1, rfl, by omega, by go_num, .inr ⟨by have := K0.out; omega, HV.out⟩⟩
                    · obtain rfl : k = 1 := hk1
                      have HV := Lib.hid hVI
                      clear hVI
                      go_wp2_with fail
                      go_roundg (30 - (i + 1))
                      case measure => have := Hm.out; omega
                      case rel => exact ⟨i + 1, rfl, by omega, by go_num, HV.out⟩
          · have hltI : decide ((i : Int) < 30) = false := decide_eq_false (by omega)
            have hsu := sure_any wo R.out.2.2.2.2.2.2
            have Hsu := Lib.hid hsu
            clear hsu
            go_wp2_with fail
            refine Hsu.out.mono ?_
            rintro e w6 ⟨rfl, hb6⟩
            have B6 := Lib.hid (R.out.2.2.2.2.2.1.trans (hb6.mono R.out.2.2.2.2.2.1.size))
            clear hb6
            go_wp2_with fail
            go_ret
            exact ⟨rfl, B6.out⟩
        · have hinI : decide ((i : Int) < (n : Int)) = false := decide_eq_false (by omega)
          have hsu := sure_any wo R.out.2.2.2.2.2.2
          have Hsu := Lib.hid hsu
          clear hsu
          go_wp2_with fail
          refine Hsu.out.mono ?_
          rintro e w6 ⟨rfl, hb6⟩
          have B6 := Lib.hid (R.out.2.2.2.2.2.1.trans (hb6.mono R.out.2.2.2.2.2.1.size))
          clear hb6
          go_wp2_with fail
          go_ret
          exact ⟨rfl, B6.out⟩
    · have Hbd := Lib.hid hgood
      clear hgood
      go_wp2_with fail
      refine Hnw.out.mono ?_
      intro e w3 h3
      unfold NewPost at h3
      rw [if_neg (by rw [S2.out.2.1]; exact Hbd.out)] at h3
      obtain ⟨rfl, hb3⟩ := h3
      have hW3 := S2.out.2.2.2.trans (hb3.mono S2.out.2.2.2.size)
      have W3 := Lib.hid hW3
      have hsu := sure_any w3 (H.out.1.new hW3)
      have Hsu := Lib.hid hsu
      clear hb3 hW3 hsu
      go_wp2_with fail
      refine Hsu.out.mono ?_
      rintro e w6 ⟨rfl, hb6⟩
      have B6 := Lib.hid (W3.out.trans (hb6.mono W3.out.size))
      clear hb6
      go_wp2_with fail
      go_ret
      exact ⟨rfl, B6.out⟩
  all_goals
    go_wp2_with fail
    refine Hsure.out.mono ?_
    rintro e w2 ⟨rfl, hb2⟩
    have HB := Lib.hid (H.out.2.1.trans ((B1.out.1.trans (hb2.mono B1.out.1.size)).mono H.out.2.1.size))
    clear hb2
    go_wp2_with fail
    go_ret
    exact ⟨rfl, HB.out⟩
end Go.Proofs.YtmhaahcbmdhinaaGreatDoor

