/- Walk of tollbarref02.Open . -/
import Derived.Test.YtbcdanegcknamaaDoorOpenS
import Derived.Test.YtbcdanegcknamaaDoorRefSeal
import Derived.Test.YtbcdanegcknamaaDoorSure2
namespace Go.Proofs.YtbcdanegcknamaaDoor
open Go.RowKit
set_option linter.unusedVariables false
set_option linter.unusedSimpArgs false
theorem refOpen_short (A : Option Addr) (n c : Nat) (w : World) (h : (n : Int) < 5) :
    Calls Tryd.prog 11 #[.slice A n c] w (OpenPost w 0 [] (.int .i64 12)) := by
  go_enter Tryd.func11, Tryd.ntmps11
  go_wp2_with fail
  go_ret3
  exact ⟨none, 0, 0, rfl, Rd.none_, Below.refl _ _⟩
set_option maxHeartbeats 800000 in
theorem refOpen_long (bb o n c : Nat) (b : List UInt8) (w : World) {ok : Nat → Prop} (hr : Rd w ok 1 (some ⟨bb, o, none⟩) (n + 4) (bs b)) (hn1 : 1 ≤ n) (hc : n + 4 ≤ c) (hn : n ≤ 1048576) (er : Value) (k : UInt8) (l : List UInt8)
    (hcase : (tailOf (sumOf (b.take n)) ≠ b.drop n ∧ k = 0 ∧ l = [] ∧ er = .int .i64 11) ∨ (tailOf (sumOf (b.take n)) = b.drop n ∧ (((b.getD 0 0).toNat : Int) == 0) = true ∧ k = 0 ∧ l = [] ∧ er = .int .i64 1) ∨ (tailOf (sumOf (b.take n)) = b.drop n ∧ (((b.getD 0 0).toNat : Int) == 0) = false ∧ k = b.getD 0 0 ∧ l = (b.take n).drop 1 ∧ er = .int .i64 0)) :
    Calls Tryd.prog 11 #[.slice (some ⟨bb, o, none⟩) (n + 4) c] w (OpenPost w k l er) := by
  have hl := hr.blen
  obtain ⟨A1, e1, r1⟩ : ∃ A1, (∀ W, (Instr.sliceAt 22 (.slice (some ⟨bb, o, none⟩) (n + 4) c) none (some (.int .i64 (n : Int))) none).run Tryd.prog W = .ok (.slice A1 n c) W) ∧ Rd w ok 1 A1 n (bs (b.take n)) :=
    ⟨_, fun W => by have := run_slice_hi (P := Tryd.prog) 22 Tryd.underlying22 (size := 1) (by kernel_rfl) (some ⟨bb, o, none⟩) (n + 4) c W n (by omega); simpa using this, by have := hr.bsub (i := 0) (k := n) (m := c) (by omega) (by omega); simpa using this⟩
  obtain ⟨A5, e2, r5⟩ : ∃ A5, (∀ W, (Instr.sliceAt 22 (.slice (some ⟨bb, o, none⟩) (n + 4) c) (some (.int .i64 (n : Int))) none none).run Tryd.prog W = .ok (.slice A5 4 (c - n)) W) ∧ Rd w ok 1 A5 4 (bs (b.drop n)) :=
    ⟨_, fun W => by have := run_slice_lo (P := Tryd.prog) 22 Tryd.underlying22 (size := 1) (by kernel_rfl) (some ⟨bb, o, none⟩) (n + 4) c W n (by omega); rw [show n + 4 - n = 4 from by omega] at this; simpa using this, by have := hr.bsub (i := n) (k := 4) (m := c) (by omega) (by omega); rw [List.take_of_length_le (by simp; omega)] at this; simpa using this⟩
  obtain ⟨bb', o', hbb, _, hlt, hc0⟩ := hr.plain (by omega) (by omega)
  injection hbb with hbb
  injection hbb with h1 h2 _
  subst h1 h2
  have hc00 : w.cell? ⟨bb, o, none⟩ = some (.int .u8 ((b.getD 0 0).toNat : Int)) := by
    have := hc0 0 (.int .u8 ((b.getD 0 0).toNat : Int)) (by rw [bs_get b 0 (by omega), List.getD_eq_getElem?_getD, List.getElem?_eq_getElem (by omega)]; rfl)
    simpa using this
  clear hc0
  have hs := sumOf_lt (b.take n)
  obtain ⟨s, hse⟩ : ∃ s, s = sumOf (b.take n) := ⟨_, rfl⟩
  rw [← hse] at hs
  have Hs := Lib.hid hse
  generalize b.getD 0 0 = y0 at hc00 hcase
  have Hcase := Lib.hid hcase
  clear hse hcase hl
  go_enter Tryd.func11, Tryd.ntmps11
  go_upto_region 4 with (fail)
  go_cut [22] (fun s22 W => ∃ z : Bool, s22 = .bool z ∧ (z = true ↔ tailOf s ≠ b.drop n) ∧ Below w.heap.size w W)
  case first =>
    have e7 := cv (r5.below ((Below.refl w.heap.size w).drew)) (c - n)
    go_region_with (first | (go_at_call 15; refine (refSum_any A1 n c (b.take n) _ (r1.below ((Below.refl _ _).drew)) (by omega)).mono ?_; rintro e w2 ⟨rfl, hb2⟩; rw [← Hs.out]; have hbb : Below w.heap.size w w2 := ((Below.refl _ _).drew).trans hb2; have e5 := cv (r5.below hbb) (c - n)) | (go_at_call 14; refine (tail_any s _ hs).mono ?_; rintro e w3 ⟨A4, c4, rfl, r4, hb3⟩; have e4 := cv r4 c4; have hbc := hbb.trans (hb3.mono hbb.size); have e6 := cv (r5.below hbc) (c - n)))
    all_goals
      go_wp2_with fail
      go_meet
      case rel =>
        refine ⟨_, rfl, ?_, by first | assumption | exact Below.trans (by assumption) (Below.mono (by assumption) (Below.size (by assumption)))⟩
        skip
        simp
  case rest =>
    obtain ⟨z, rfl, hz, hb⟩ := hcut
    have k0 := (hb.cell (p := ⟨bb, o, none⟩) hlt).trans hc00
    rcases Hcase.out with ⟨h1, rfl, rfl, rfl⟩ | ⟨h1, h2, rfl, rfl, rfl⟩ | ⟨h1, h2, rfl, rfl, rfl⟩
    · have hz1 : z = true := hz.2 (by rw [Hs.out]; exact h1)
      subst hz1
      clear hz
      go_wp2_with fail
      go_ret3
      exact ⟨none, 0, 0, rfl, Rd.none_, hb⟩
    · have hz1 : z = false := by
        rcases Bool.eq_false_or_eq_true z with e | e
        · exact absurd h1 (by rw [← Hs.out]; exact hz.1 e)
        · exact e
      subst hz1
      clear hz
      go_wp2_with fail
      go_ret3
      exact ⟨none, 0, 0, rfl, Rd.none_, hb⟩
    · have hz1 : z = false := by
        rcases Bool.eq_false_or_eq_true z with e | e
        · exact absurd h1 (by rw [← Hs.out]; exact hz.1 e)
        · exact e
      subst hz1
      have h3 : ¬ (1048577 : Int) < (n : Int) := by omega
      obtain ⟨A2, e3, r3⟩ : ∃ A2, (∀ W, (Instr.sliceAt 22 (.slice (some ⟨bb, o, none⟩) (n + 4) c) (some (.int .i64 1)) (some (.int .i64 (n : Int))) none).run Tryd.prog W = .ok (.slice A2 (n - 1) (c - 1)) W) ∧ Rd w ok 1 A2 (n - 1) (bs ((b.take n).drop 1)) :=
        ⟨_, fun W => by have := run_slice_lohi (P := Tryd.prog) 22 Tryd.underlying22 (size := 1) (by kernel_rfl) (some ⟨bb, o, none⟩) (n + 4) c W 1 n (by omega) (by omega); simpa using this, by have := hr.bsub (i := 1) (k := n - 1) (m := c) (by omega) (by omega); rw [List.drop_take]; simpa using this⟩
      have h0n : (0 : Int) < (n : Int) + 4 := by omega
      clear hz
      go_wp2_with fail
      go_region
      all_goals
        go_wp2_with fail
        go_ret3
        exact ⟨A2, _, _, rfl, (r3.below hb).any, hb.drew⟩
end Go.Proofs.YtbcdanegcknamaaDoor
