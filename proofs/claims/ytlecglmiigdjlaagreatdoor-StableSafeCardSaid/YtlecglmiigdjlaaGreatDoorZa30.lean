/- What comes in: a list of what is to be kept (the document's, seven cells each, the log and the members and the snapshot within). -/
import Derived.Test.YtlecglmiigdjlaaGreatDoorZa12
import Derived.Test.YtlecglmiigdjlaaGreatDoorZa29
namespace Go.Proofs.YtlecglmiigdjlaaGreatDoor
open Go.ChangeShapes Go.WideShapes Go.ChangeAt Go.RowKit Go.Joins Go.Deep
set_option linter.unusedVariables false
set_option linter.unusedSimpArgs false
def scell (s : Sv) : List Value := [.int .i64 s.tm, .int .i64 s.vt, .int .i64 s.b, .int .i64 s.t, .slice s.A s.n s.c, .slice s.C s.nc s.cc, .slice s.S s.ns s.cs]
theorem scell_len (s : Sv) : (scell s).length = 7 := rfl
def Sv.I (s : Sv) : Prop := (I64 s.tm ∧ I64 s.vt ∧ I64 s.b ∧ I64 s.t) ∧ ∀ y ∈ s.L, W64 y ∧ y.n ≤ reachBytes
theorem seven {l : List Value} (h : l.length = 7) : ∃ a b c d e f g, l = [a, b, c, d, e, f, g] := by
  match l, h with
  | [a, b, c, d, e, f, g], _ => exact ⟨a, b, c, d, e, f, g, rfl⟩
section
variable {H : Type} {enc : TypeId × Value → H} {w : World} {base : Nat} {spare : Nat → Bool} {held : Bool} {fuel : Nat} {v : Value} {dd : DataW H} {pp : List MemPlace}
theorem in_sv {cs : List Value} (h : DataW.trod enc Tryz.prog w base spare held fuel 50 cs = some (dd, pp)) (hs : Sized Tryz.prog 50 dd) : ∃ s : Sv, cs = scell s ∧ s.At w T ∧ s.I := by
  obtain ⟨ys, n, _, hx, hlen, hyl, hf⟩ := DataW.trod_struct Tryz.underlying50 h
  obtain ⟨a, b, c, d, e, f, g, rfl⟩ := seven (hlen.trans (by kernel_rfl))
  have c1 : Tryz.prog.cellsOf 3 = 1 := by kernel_rfl
  have c3 : Tryz.prog.cellsOf 48 = 3 := by kernel_rfl
  have ci : Tryz.prog.cellsOf 22 = 1 := by kernel_rfl
  have cb : Tryz.prog.cellsOf 33 = 1 := by kernel_rfl
  have some_ : ∀ i, i < 5 → ∃ y, ys[i]? = some y := fun i hi => ⟨_, List.getElem?_eq_getElem (by rw [show ys.length = 5 from hyl]; exact hi)⟩
  have h0 : DataW.trod enc Tryz.prog w base spare held n 3 ((([a, b, c, d, e, f, g] : List Value).drop 0).take (Tryz.prog.cellsOf 3)) = ys[0]? := hf 0 _ rfl
  have h1 : DataW.trod enc Tryz.prog w base spare held n 3 ((([a, b, c, d, e, f, g] : List Value).drop 1).take (Tryz.prog.cellsOf 3)) = ys[1]? := hf 1 _ rfl
  have h2 : DataW.trod enc Tryz.prog w base spare held n 48 ((([a, b, c, d, e, f, g] : List Value).drop 2).take (Tryz.prog.cellsOf 48)) = ys[2]? := hf 2 _ rfl
  have h3 : DataW.trod enc Tryz.prog w base spare held n 22 ((([a, b, c, d, e, f, g] : List Value).drop 5).take (Tryz.prog.cellsOf 22)) = ys[3]? := hf 3 _ rfl
  have h4 : DataW.trod enc Tryz.prog w base spare held n 33 ((([a, b, c, d, e, f, g] : List Value).drop 6).take (Tryz.prog.cellsOf 33)) = ys[4]? := hf 4 _ rfl
  rw [c1] at h0 h1
  rw [c3] at h2
  rw [ci] at h3
  rw [cb] at h4
  simp only [List.drop_zero, List.drop_succ_cons, List.take_succ_cons, List.take_zero] at h0 h1 h2 h3 h4
  obtain ⟨y0, e0⟩ := some_ 0 (by omega)
  obtain ⟨y1, e1⟩ := some_ 1 (by omega)
  obtain ⟨y2, e2⟩ := some_ 2 (by omega)
  obtain ⟨y3, e3⟩ := some_ 3 (by omega)
  obtain ⟨y4, e4⟩ := some_ 4 (by omega)
  rw [e0] at h0
  rw [e1] at h1
  rw [e2] at h2
  rw [e3] at h3
  rw [e4] at h4
  rw [show dd = _ from congrArg Prod.fst hx] at hs
  have s2 : Sized Tryz.prog 48 y2.1 := hs.field Tryz.underlying50 (j := 2) rfl (by rw [List.getElem?_map, e2]; rfl)
  obtain ⟨zs, m, _, hx2, _, lz, hg⟩ := DataW.trod_struct Tryz.underlying48 h2
  rw [show y2.1 = _ from congrArg Prod.fst hx2] at s2
  have some3 : ∀ i, i < 3 → ∃ y, zs[i]? = some y := fun i hi => ⟨_, List.getElem?_eq_getElem (by rw [show zs.length = 3 from lz]; exact hi)⟩
  have ce : Tryz.prog.cellsOf 46 = 1 := by kernel_rfl
  have k0 : DataW.trod enc Tryz.prog w base spare held m 3 ((([c, d, e] : List Value).drop 0).take (Tryz.prog.cellsOf 3)) = zs[0]? := hg 0 _ rfl
  have k1 : DataW.trod enc Tryz.prog w base spare held m 3 ((([c, d, e] : List Value).drop 1).take (Tryz.prog.cellsOf 3)) = zs[1]? := hg 1 _ rfl
  have k2 : DataW.trod enc Tryz.prog w base spare held m 46 ((([c, d, e] : List Value).drop 2).take (Tryz.prog.cellsOf 46)) = zs[2]? := hg 2 _ rfl
  rw [c1] at k0 k1
  rw [ce] at k2
  simp only [List.drop_zero, List.drop_succ_cons, List.take_succ_cons, List.take_zero] at k0 k1 k2
  obtain ⟨x0, q0⟩ := some3 0 (by omega)
  obtain ⟨x1, q1⟩ := some3 1 (by omega)
  obtain ⟨x2, q2⟩ := some3 2 (by omega)
  rw [q0] at k0
  rw [q1] at k1
  rw [q2] at k2
  have s3 : Sized Tryz.prog 46 x2.1 := s2.field Tryz.underlying48 (j := 2) rfl (by rw [List.getElem?_map, q2]; rfl)
  obtain ⟨x2d, x2p⟩ := x2
  obtain ⟨z0, rfl, w0⟩ := in_int Tryz.underlying3 h0
  obtain ⟨z1, rfl, w1⟩ := in_int Tryz.underlying3 h1
  obtain ⟨z2, rfl, w2⟩ := in_int Tryz.underlying3 k0
  obtain ⟨z3, rfl, w3⟩ := in_int Tryz.underlying3 k1
  obtain ⟨A, nA, cA, L, rfl, r1, _, n1, n2, _, dt, wt⟩ := in_ents_sized Tryz.underlying46 Tryz.underlying93 (by kernel_rfl) (by kernel_rfl) Tryz.underlying3 Tryz.underlying3 Tryz.underlying3 Tryz.underlying33 Tryz.underlying5 (by kernel_rfl) (by kernel_rfl) k2 s3
  obtain ⟨C, nC, cC, cf, rfl, r2, n3, n4, _, _⟩ := in_ints Tryz.underlying22 Tryz.underlying3 (by kernel_rfl) h3
  obtain ⟨S, nS, cS, sn, rfl, r3, n5, n6, _⟩ := in_bytes Tryz.underlying33 Tryz.underlying5 (by kernel_rfl) h4
  exact ⟨⟨z0, z1, z2, z3, A, nA, cA, L, C, nC, cC, cf, S, nS, cS, sn⟩, rfl, ⟨r1, fun y hy => dt y hy, r2, r3, ⟨n1, n2⟩, ⟨n3, n4⟩, ⟨n5, n6⟩⟩, ⟨i64_of_wf w0, i64_of_wf w1, i64_of_wf w2, i64_of_wf w3⟩, wt⟩
theorem in_stored (h : DataW.trod enc Tryz.prog w base spare held fuel 23 [v] = some (dd, pp)) (hs : Sized Tryz.prog 23 dd) :
    ∃ A n c, ∃ L : List Sv, v = .slice A n c ∧ Rd w T 7 A n (flat scell L) ∧ L.length = n ∧ n ≤ c ∧ c ≤ maxLen ∧ ∀ s ∈ L, s.At w T ∧ s.I := by
  rcases open_slice Tryz.underlying23 h with ⟨hcs, _⟩ | ⟨a, len, cap, m, n, D, Pl, hcs, _, hl, hm, hmm, hx, hi⟩
  · exact ⟨none, 0, 0, [], by simpa using hcs, Rd.none_, rfl, Nat.le_refl _, by simp [maxLen], fun s hs => by cases hs⟩
  · have him : ∀ i, i < len → i < m := fun i hil => by rw [hmm]; split <;> omega
    have c7 : Tryz.prog.cellsOf 50 = 7 := by kernel_rfl
    rw [c7] at hi
    rw [show dd = _ from congrArg Prod.fst hx] at hs
    have hsi : ∀ i, i < len → Sized Tryz.prog 50 (D i) := fun i hil => hs.elem Tryz.underlying23 (List.mem_map.2 ⟨i, List.mem_range.2 hil, rfl⟩)
    obtain ⟨L, k1, k2, k3⟩ := rd_of_rows (A := some a) (n := len) (w := w) scell_len (by omega) (fun s => s.At w T ∧ s.I) (by
      intro i hil
      obtain ⟨cs', hc, ht'⟩ := hi i (him i hil)
      obtain ⟨s, rfl, hs1, hs2⟩ := in_sv ht' (hsi i hil)
      obtain ⟨_, _, hat⟩ := World.cells?_some hc
      have hspot : a.spot = none := by
        obtain ⟨cs0, hc0, ht0⟩ := hi 0 (him 0 (by omega))
        obtain ⟨s0, rfl, _, _⟩ := in_sv ht0 (hsi 0 (by omega))
        obtain ⟨_, _, hat0⟩ := World.cells?_some hc0
        have h00 := hat0 0 (by omega)
        have : ((a.add (0 * 7)).add 0) = a := by simp [Addr.add]
        rw [this] at h00
        obtain ⟨b, o, sp⟩ := a
        exact World.cell?_spot (h00.trans rfl)
      obtain ⟨b, o, sp⟩ := a
      dsimp only at hspot
      subst hspot
      refine ⟨s, ⟨hs1, hs2⟩, b, o, rfl, fun j u hj => ?_⟩
      have hj7 : j < 7 := (List.getElem?_eq_some_iff.1 hj).1
      have := hat j hj7
      rw [hj, add_add] at this
      have hadd : ∀ k, (⟨b, o, none⟩ : Addr).add k = ⟨b, o + k, none⟩ := fun k => by unfold Addr.add; split <;> simp_all
      rw [hadd, ← Nat.add_assoc] at this
      exact this)
    exact ⟨some a, len, cap, L, by simpa using hcs, k1, k2, hl, hm, k3⟩
end
end Go.Proofs.YtlecglmiigdjlaaGreatDoor
