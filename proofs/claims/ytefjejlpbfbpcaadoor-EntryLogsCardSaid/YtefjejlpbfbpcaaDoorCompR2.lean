/- Walk of the document's Compact. -/
import Derived.Test.YtefjejlpbfbpcaaDoorCompR
namespace Go.Proofs.YtefjejlpbfbpcaaDoor
open Go.RowKit
set_option maxRecDepth 100000
set_option linter.unusedVariables false
set_option linter.unusedSimpArgs false
def CompRPost (W : World) (b t ix : Int) (n : Nat) (L : List Er) (r : Int × Int) (e : Ending) (w' : World) : Prop :=
  if r.1 = 0 then ∃ A c m, e = .returned (.tuple #[.agg #[.int .i64 ix, .int .i64 r.2, .slice A (n - m) c], .int .i64 0]) ∧ m ≤ n ∧ ix = b + m ∧ Rd w' T 4 A (n - m) (flat ecell (L.drop m)) ∧ Below W.heap.size W w'
  else e = .returned (.tuple #[.agg #[.int .i64 0, .int .i64 0, .slice none 0 0], .int .i64 r.1]) ∧ Below W.heap.size W w'
theorem compL_in {b t ix : Int} {l : List En} (h0 : (compL b t l ix).1 = 0) : lmay b t l = true ∧ b ≤ ix ∧ ix ≤ b + l.length := by
  by_cases hm : lmay b t l = true
  · rw [compL_yes hm] at h0
    have hlast := lmay_last hm
    refine ⟨hm, ?_⟩
    unfold termL at h0
    rw [hlast] at h0
    split at h0
    · cases h0
    · split at h0
      · cases h0
      · omega
  · rw [Bool.not_eq_true] at hm
    rw [compL_no hm] at h0
    cases h0
set_option maxHeartbeats 1600000 in
theorem compR_any (b t ix : Int) (A : Option Addr) (n c : Nat) (L : List Er) (w : World) (hr : Rd w T 4 A n (flat ecell L)) (hw : Wel L) (hn : n ≤ 1000000) (hnc : n ≤ c) :
    Calls Tryd.prog 22 #[.agg #[.int .i64 b, .int .i64 t, .slice A n c], .int .i64 ix] w (CompRPost w b t ix n L (compL b t (L.map en) ix)) := by
  have hr' := hr.lt (by omega)
  have hll := hr.flen ecell_len (by omega)
  obtain ⟨W0, hW0⟩ : ∃ W0, W0 = (w.alloc (.cells #[.int .i64 b, .int .i64 t, .slice A n c] 24)).alloc (.cells #[.int .i64 0, .int .i64 0, .slice none 0 0] 24) := ⟨_, rfl⟩
  have b0 : Bx W0 w.heap.size #[.int .i64 b, .int .i64 t, .slice A n c] := by subst hW0; exact (Bx.new _ _ _ rfl).alloc _
  have F0 : Fr W0 (w.heap.size + 1) 3 W0 := by subst hW0; exact Fr.new (by simp) rfl
  have r0 : Rd W0 (· < w.heap.size) 4 A n (flat ecell L) := by subst hW0; exact ((hr'.mono fun b hb => hb.2).alloc _).alloc _
  have hbe : Below w.heap.size w W0 := by subst hW0; exact ((Below.refl _ _).alloc (Nat.le_refl _) _).alloc (by simp) _
  have u0 : W0.cell? ⟨w.heap.size, 0, none⟩ = some (.int .i64 b) := b0.c 0
  have u1 : W0.cell? ⟨w.heap.size, 1, none⟩ = some (.int .i64 t) := b0.c 1
  have u2 : W0.cell? ⟨w.heap.size, 2, none⟩ = some (.slice A n c) := b0.c 2
  have hlt := termR_any b t ix A n c L W0 r0 hw hn
  obtain ⟨r, hrr⟩ : ∃ r, compL b t (L.map en) ix = r := ⟨_, rfl⟩
  have hin : r.1 = 0 → b ≤ ix ∧ ix ≤ b + n := fun h => by
    have := (compL_in (hrr ▸ h)).2
    rwa [List.length_map, hll] at this
  rw [hrr] at hlt ⊢
  have Hlt := Lib.hid hlt
  have HW := Lib.hid hW0
  have U := Lib.hid (And.intro u0 (And.intro u1 u2))
  have Hin := Lib.hid hin
  have R0 := Lib.hid r0
  have Hll := Lib.hid hll
  clear hW0 b0 u0 u1 u2 hr hr' r0 hlt hw hrr hin hll
  obtain ⟨r1, r2⟩ := r
  go_enter Tryd.func22, Tryd.ntmps22
  obtain ⟨u0, u1, u2⟩ := U.out
  go_wp2_with fail
  rw [← HW.out]
  obtain ⟨u0, u1, u2⟩ := U.out
  go_wp2_with fail
  refine Hlt.out.mono ?_
  rintro e w2 ⟨rfl, hb2⟩
  have F2 := F0.below hb2
  have j0 : w2.cell? ⟨w.heap.size, 0, none⟩ = some (.int .i64 b) := F2.cell (by omega) U.out.1
  have j1 : w2.cell? ⟨w.heap.size, 1, none⟩ = some (.int .i64 t) := F2.cell (by omega) U.out.2.1
  have j2 : w2.cell? ⟨w.heap.size, 2, none⟩ = some (.slice A n c) := F2.cell (by omega) U.out.2.2
  have q0 : w2.cell? ⟨w.heap.size + 1, 0, none⟩ = some (peek w2 (w.heap.size + 1) 0) := F2.pk (by omega)
  have q1 : w2.cell? ⟨w.heap.size + 1, 1, none⟩ = some (peek w2 (w.heap.size + 1) 1) := F2.pk (by omega)
  have q2 : w2.cell? ⟨w.heap.size + 1, 2, none⟩ = some (peek w2 (w.heap.size + 1) 2) := F2.pk (by omega)
  have g0 : w2.frozen? ⟨w.heap.size + 1, 0, none⟩ = false := F2.fz _
  have g1 : w2.frozen? ⟨w.heap.size + 1, 1, none⟩ = false := F2.fz _
  have g2 : w2.frozen? ⟨w.heap.size + 1, 2, none⟩ = false := F2.fz _
  clear u0 u1 u2
  by_cases h0 : r1 = 0
  · subst h0
    obtain ⟨h1, h2⟩ := Hin.out rfl
    obtain ⟨m, hmx⟩ : ∃ m : Nat, ix = b + m := ⟨(ix - b).toNat, by omega⟩
    have hmn : m ≤ n := by omega
    have wv : IntKind.i64.wrap (ix - b) = (m : Int) := by rw [IntKind.wrap_i64]; omega
    have hsl : ∀ W, (Instr.sliceAt 22 (.slice A n c) (some (.int .i64 (m : Int))) none none).run Tryd.prog W = .ok (.slice (if c = m then A else A.map (·.add (m * 4))) (n - m) (c - m)) W := fun W => run_slice_lo (P := Tryd.prog) 22 Tryd.underlying22 (size := 4) (by kernel_rfl) A n c W m hmn
    have hrs : Rd w2 (· < w.heap.size) 4 (if c = m then A else A.map (·.add (m * 4))) (n - m) (flat ecell (L.drop m)) := by
      have := (R0.out.below hb2).sub (l := m) (k := n - m) (m := c) (by omega) (by omega)
      rw [← flat_drop ecell_len, List.take_of_length_le (by rw [flat_length ecell_len]; have := Hll.out; simp; omega)] at this
      exact this
    generalize (if c = m then A else A.map (·.add (m * 4))) = A5 at hsl hrs
    have Hrs := Lib.hid hrs
    have Hmx := Lib.hid (And.intro hmn hmx)
    clear hrs h1 h2 hmn hmx hb2
    go_wp2_with fail
    have FF := Fr.set (Fr.set (Fr.set F2 0 (.int .i64 ix)) 1 (.int .i64 r2)) 2 (.slice A5 (n - m) (c - m))
    refine bodyPost_ret (by simp [results, Tryd.results22, go_sem, q0, q1, q2]; rfl) rfl ?_
    unfold CompRPost
    rw [if_pos rfl]
    have hne : ¬ w.heap.size + 1 < w.heap.size := by omega
    refine ⟨A5, c - m, m, rfl, Hmx.out.1, Hmx.out.2, ?_, hbe.trans (FF.to_below (B := w.heap.size) (by omega))⟩
    exact (((Hrs.out.setCell (p := ⟨w.heap.size + 1, 0, none⟩) hne _).setCell (p := ⟨w.heap.size + 1, 1, none⟩) hne _).setCell (p := ⟨w.heap.size + 1, 2, none⟩) hne _).any
  · have hne : (r1 != 0) = true := by simpa using h0
    go_wp2_with fail
    have FF := Fr.set (Fr.set (Fr.set F2 0 (.int .i64 0)) 1 (.int .i64 0)) 2 (.slice none 0 0)
    refine bodyPost_ret (by simp [results, Tryd.results22, go_sem, q0, q1, q2]; rfl) rfl ?_
    unfold CompRPost
    rw [if_neg h0]
    exact ⟨rfl, hbe.trans (FF.to_below (B := w.heap.size) (by omega))⟩
end Go.Proofs.YtefjejlpbfbpcaaDoor
