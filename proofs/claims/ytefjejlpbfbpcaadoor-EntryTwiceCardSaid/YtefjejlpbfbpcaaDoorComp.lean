/- Walks of entry.Term, entry.Compact. -/
import Derived.Test.YtefjejlpbfbpcaaDoorMg
import Derived.Test.YtefjejlpbfbpcaaDoorLogs3
namespace Go.Proofs.YtefjejlpbfbpcaaDoor
open Go.RowKit
set_option maxRecDepth 100000
set_option linter.unusedVariables false
set_option linter.unusedSimpArgs false
set_option maxHeartbeats 1600000 in
theorem Term_any (b t ix : Int) (A : Option Addr) (n c : Nat) (L : List Er) (w : World) {ok : Nat → Prop} (hr : Rd w ok 4 A n (flat ecell L)) (hw : Wel L) (hm : lmay b t (L.map en) = true) (hn : n ≤ 1000000) :
    Calls Tryd.prog 19 #[.agg #[.int .i64 b, .int .i64 t, .slice A n c], .int .i64 ix] w (TermPost w (termL b t (L.map en) ix)) := by
  have hmm := fun ob => may_any b t A n c L (w.alloc ob) (hr.alloc ob) hw hn
  have hl := fun W (hb : Below w.heap.size w W) => term_any b t ix A n c L W (hr.below hb) hm hn
  rw [hm] at hmm
  generalize termL b t (L.map en) ix = x at hl
  have Bb := Lib.hid (Bx.new w #[.int .i64 b, .int .i64 t, .slice A n c] 31 rfl)
  have Hmm := Lib.hid hmm
  have Hl := Lib.hid hl
  clear hmm hl hr hw hm
  go_enter Tryd.func19, Tryd.ntmps19
  go_wp2_with fail
  refine (Hmm.out _).mono ?_
  rintro e w2 ⟨rfl, hb2⟩
  obtain ⟨k0, k1, k2, -⟩ := (Bb.out.below hb2).c3
  have hb3 := ((Below.refl w.heap.size w).alloc (Nat.le_refl _) (.cells #[.int .i64 b, .int .i64 t, .slice A n c] 31)).trans (hb2.mono (by simp))
  clear hb2
  go_wp2_with fail
  refine (Hl.out _ hb3).mono ?_
  rintro e w3 ⟨rfl, hb4⟩
  go_wp2_with fail
  go_ret2
  exact ⟨rfl, hb3.trans (hb4.mono hb3.size)⟩
def CompPost (W : World) (b t ix : Int) (n : Nat) (L : List Er) (r : Int × Int) (e : Ending) (w' : World) : Prop :=
  if r.1 = 0 then ∃ A c L' m, e = .returned (.tuple #[.agg #[.int .i64 ix, .int .i64 r.2, .slice A (n - m) c], .nilIface]) ∧ m ≤ n ∧ ix = b + m ∧ Rd w' (W.heap.size ≤ ·) 4 A (n - m) (flat ecell L') ∧ DatB w' W.heap.size L' ∧ L'.map en = (L.map en).drop m ∧ n - m ≤ c ∧ Below W.heap.size W w'
  else e = .returned (.tuple #[.agg #[.int .i64 0, .int .i64 0, .slice none 0 0], errC r.1]) ∧ Below W.heap.size W w'
set_option maxHeartbeats 1600000 in
theorem comp_any (b t ix : Int) (A : Option Addr) (n c : Nat) (L : List Er) (w : World) (hr : Rd w T 4 A n (flat ecell L)) (hd : Dat w L) (hw : Wel L) (hs : ∀ x ∈ L, x.n ≤ 1000000) (hm : lmay b t (L.map en) = true) (hn : n ≤ 1000000) (hnc : n ≤ c) (hcm : c ≤ maxLen) :
    Calls Tryd.prog 21 #[.agg #[.int .i64 b, .int .i64 t, .slice A n c], .int .i64 ix] w (CompPost w b t ix n L (termL b t (L.map en) ix)) := by
  have hr' := hr.lt (by omega)
  have hll := hr.flen ecell_len (by omega)
  have hlast := lmay_last hm
  rw [List.length_map, hll] at hlast
  have hbb := (lmay_iff.1 hm).1
  obtain ⟨W0, hW0⟩ : ∃ W0, W0 = (w.alloc (.cells #[.int .i64 b, .int .i64 t, .slice A n c] 31)).alloc (.cells #[.int .i64 0, .int .i64 0, .slice none 0 0] 31) := ⟨_, rfl⟩
  have b0 : Bx W0 w.heap.size #[.int .i64 b, .int .i64 t, .slice A n c] := by subst hW0; exact (Bx.new _ _ _ rfl).alloc _
  have F0 : Fr W0 (w.heap.size + 1) 3 W0 := by subst hW0; exact Fr.new (by simp) rfl
  have r0 : Rd W0 (· < w.heap.size) 4 A n (flat ecell L) := by subst hW0; exact ((hr'.mono fun b hb => hb.2).alloc _).alloc _
  have d0 : ∀ x ∈ L, Rd W0 (· < w.heap.size) 1 x.A x.n (bs x.d) ∧ x.n ≤ x.m ∧ x.m ≤ maxLen := by
    subst hW0
    exact fun x hx => ⟨(((((hd x hx).1.lt (by omega)).mono fun b hb => hb.2).alloc _).alloc _), (hd x hx).2⟩
  have hbe : Below w.heap.size w W0 := by subst hW0; exact ((Below.refl _ _).alloc (Nat.le_refl _) _).alloc (by simp) _
  have hz : W0.heap.size = w.heap.size + 2 := by subst hW0; simp
  have u0 : W0.cell? ⟨w.heap.size, 0, none⟩ = some (.int .i64 b) := b0.c 0
  have u1 : W0.cell? ⟨w.heap.size, 1, none⟩ = some (.int .i64 t) := b0.c 1
  have u2 : W0.cell? ⟨w.heap.size, 2, none⟩ = some (.slice A n c) := b0.c 2
  have sof : ∀ W, Fr W0 (w.heap.size + 1) 3 W → (Fr W0 (w.heap.size + 1) 3 W ∧ W.cell? ⟨w.heap.size, 0, none⟩ = some (.int .i64 b) ∧ W.cell? ⟨w.heap.size, 1, none⟩ = some (.int .i64 t) ∧ W.cell? ⟨w.heap.size, 2, none⟩ = some (.slice A n c) ∧ W.cell? ⟨w.heap.size + 1, 0, none⟩ = some (peek W (w.heap.size + 1) 0) ∧ W.cell? ⟨w.heap.size + 1, 1, none⟩ = some (peek W (w.heap.size + 1) 1) ∧ W.cell? ⟨w.heap.size + 1, 2, none⟩ = some (peek W (w.heap.size + 1) 2) ∧ W.frozen? ⟨w.heap.size + 1, 0, none⟩ = false ∧ W.frozen? ⟨w.heap.size + 1, 1, none⟩ = false ∧ W.frozen? ⟨w.heap.size + 1, 2, none⟩ = false) :=
    fun W F2 => ⟨F2, F2.cell (by omega) u0, F2.cell (by omega) u1, F2.cell (by omega) u2, F2.pk (by omega), F2.pk (by omega), F2.pk (by omega), F2.fz _, F2.fz _, F2.fz _⟩
  have hmm := fun W (h : Fr W0 (w.heap.size + 1) 3 W) => may_any b t A n c L W (h.rd r0 (by omega)) hw (by omega)
  have hlt := fun W (h : Fr W0 (w.heap.size + 1) 3 W) => term_any b t ix A n c L W (h.rd r0 (by omega)) hm (by omega)
  rw [hm] at hmm
  obtain ⟨r, hrr⟩ : ∃ r, termL b t (L.map en) ix = r := ⟨_, rfl⟩
  rw [hrr] at hlt ⊢
  have Hmm := Lib.hid hmm
  have Hlt := Lib.hid hlt
  have HW := Lib.hid hW0
  have s0 := sof _ F0
  have Hz := Lib.hid hz
  by_cases h0 : r.1 = 0
  · have hin : b ≤ ix ∧ ix ≤ b + n := by
      unfold termL at hrr
      rw [hlast] at hrr
      split at hrr
      · rw [← hrr] at h0; cases h0
      · split at hrr
        · rw [← hrr] at h0; cases h0
        · omega
    obtain ⟨m, hmx⟩ : ∃ m : Nat, ix = b + m := ⟨(ix - b).toNat, by omega⟩
    have hmn : m ≤ n := by omega
    have wv : IntKind.i64.wrap (ix - b) = (m : Int) := by rw [IntKind.wrap_i64]; omega
    have hmc : maxLen = 9223372036854775807 := by decide
    have hsl : ∀ W, (Instr.sliceAt 29 (.slice A n c) (some (.int .i64 (m : Int))) none none).run Tryd.prog W = .ok (.slice (if c = m then A else A.map (·.add (m * 4))) (n - m) (c - m)) W := fun W => run_slice_lo (P := Tryd.prog) 29 Tryd.underlying29 (size := 4) (by kernel_rfl) A n c W m hmn
    have hrs : Rd W0 (· < w.heap.size) 4 (if c = m then A else A.map (·.add (m * 4))) (n - m) (flat ecell (L.drop m)) := by
      have := r0.sub (l := m) (k := n - m) (m := c) (by omega) (by omega)
      rw [← flat_drop ecell_len, List.take_of_length_le (by rw [flat_length ecell_len]; simp; omega)] at this
      exact this
    generalize (if c = m then A else A.map (·.add (m * 4))) = A5 at hsl hrs
    have how : ∀ W, Fr W0 (w.heap.size + 1) 3 W → Calls Tryd.prog 32 #[.slice A5 (n - m) (c - m)] W (fun e w' => ∃ A' c' L', e = .returned (.slice A' (n - m) c') ∧ Ro w' W.heap.size A' (n - m) c' L' ∧ Same (L.drop m) L' ∧ Below W.heap.size W w' ∧ W0.heap.size ≤ W.heap.size) := fun W h => (owns_any A5 (n - m) (c - m) (L.drop m) W (h.rd hrs (by omega)) (fun x hx => ⟨(h.rd (d0 x (List.mem_of_mem_drop hx)).1 (by omega)).any, (d0 x (List.mem_of_mem_drop hx)).2⟩) (fun x hx => hs x (List.mem_of_mem_drop hx)) (by omega)).mono fun e w' ⟨A', c', L', h1, h2, h3, h4⟩ => ⟨A', c', L', h1, h2, h3, h4, h.gr.size⟩
    have How := Lib.hid how
    have Hwv := Lib.hid (And.intro hmn hmx)
    have Hrr := Lib.hid hrr
    clear hW0 b0 u0 u1 u2 hr hr' hz r0 d0 hmm hlt how hd hs hw hm hrs hin hlast hbb hmx hmn hcm hmc hrr hll
    obtain ⟨r1, r2⟩ := r
    dsimp only at h0
    subst h0
    go_enter Tryd.func21, Tryd.ntmps21
    go_wp2_with fail
    rw [← HW.out]
    refine (Hmm.out _ F0).mono ?_
    rintro e w1 ⟨rfl, hb1⟩
    have F1 := F0.below hb1
    have s1 := sof _ F1
    go_split_ands
    go_wp2_with fail
    refine (Hlt.out _ F1).mono ?_
    rintro e w2 ⟨rfl, hb2⟩
    have F2 := F1.below hb2
    have s2 := sof _ F2
    go_split_ands
    have ec : errC 0 = .nilIface := rfl
    go_wp2_with fail
    refine (How.out _ (by assumption)).mono ?_
    rintro e w4 ⟨A4, c4, L4, rfl, ro4, sm4, hb4, z4⟩
    have F4 : Fr W0 (w.heap.size + 1) 3 w4 := Fr.below (by assumption) hb4
    have s4 := sof _ F4
    go_split_ands
    go_wp2_with fail
    have q0 : w4.cell? ⟨w.heap.size + 1, 0, none⟩ = some (peek w4 (w.heap.size + 1) 0) := F4.pk (by omega)
    have q1 : w4.cell? ⟨w.heap.size + 1, 1, none⟩ = some (peek w4 (w.heap.size + 1) 1) := F4.pk (by omega)
    have q2 : w4.cell? ⟨w.heap.size + 1, 2, none⟩ = some (peek w4 (w.heap.size + 1) 2) := F4.pk (by omega)
    have FF := Fr.set (Fr.set (Fr.set F4 0 (.int .i64 ix)) 1 (.int .i64 r2)) 2 (.slice A4 (n - m) c4)
    have hz := Hz.out
    refine bodyPost_ret (by simp [results, Tryd.results21, go_sem, q0, q1, q2]; rfl) rfl ?_
    have hcap := own_cap ro4.ow
    unfold CompPost
    rw [if_pos rfl]
    have rF := ((ro4.far (p := ⟨w.heap.size + 1, 0, none⟩) (by simp; omega) (.int .i64 ix)).far (p := ⟨w.heap.size + 1, 1, none⟩) (by simp; omega) (.int .i64 r2)).far (p := ⟨w.heap.size + 1, 2, none⟩) (by simp; omega) (.slice A4 (n - m) c4)
    refine ⟨A4, c4, L4, m, rfl, Hwv.out.1, Hwv.out.2, (Rd.of_own rF.ow).mono fun q hq => by omega, rF.datB (by omega), ?_, hcap.1, hbe.trans (FF.to_below (B := w.heap.size) (by omega))⟩
    rw [sm4, List.map_drop]
  · have hek : errC r.1 = .iface 83 (.int .i64 r.1) := if_neg h0
    have hp : ∀ e w', (e = .returned (.tuple #[.agg #[.int .i64 0, .int .i64 0, .slice none 0 0], errC r.1]) ∧ Below w.heap.size w w') → CompPost w b t ix n L r e w' := fun e w' h => by unfold CompPost; rw [if_neg h0]; exact h
    have Hp := Lib.hid hp
    clear hW0 b0 u0 u1 u2 hr hr' hz r0 d0 hmm hlt hd hs hw hm hlast hbb hrr hll hp
    go_enter Tryd.func21, Tryd.ntmps21
    go_wp2_with fail
    rw [← HW.out]
    refine (Hmm.out _ F0).mono ?_
    rintro e w1 ⟨rfl, hb1⟩
    have F1 := F0.below hb1
    have s1 := sof _ F1
    go_split_ands
    go_wp2_with fail
    refine (Hlt.out _ F1).mono ?_
    rintro e w2 ⟨rfl, hb2⟩
    have F2 := F1.below hb2
    have s2 := sof _ F2
    go_split_ands
    rw [hek]
    go_wp2_with fail
    have q0 : w2.cell? ⟨w.heap.size + 1, 0, none⟩ = some (peek w2 (w.heap.size + 1) 0) := F2.pk (by omega)
    have q1 : w2.cell? ⟨w.heap.size + 1, 1, none⟩ = some (peek w2 (w.heap.size + 1) 1) := F2.pk (by omega)
    have q2 : w2.cell? ⟨w.heap.size + 1, 2, none⟩ = some (peek w2 (w.heap.size + 1) 2) := F2.pk (by omega)
    have FF := Fr.set (Fr.set (Fr.set F2 0 (.int .i64 0)) 1 (.int .i64 0)) 2 (.slice none 0 0)
    have hz := Hz.out
    refine bodyPost_ret (by simp [results, Tryd.results21, go_sem, q0, q1, q2]; rfl) rfl ?_
    exact Hp.out _ _ ⟨by rw [hek], hbe.trans (FF.to_below (B := w.heap.size) (by omega))⟩
end Go.Proofs.YtefjejlpbfbpcaaDoor
