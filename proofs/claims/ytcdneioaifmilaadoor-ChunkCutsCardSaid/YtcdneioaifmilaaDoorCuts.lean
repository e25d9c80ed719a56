/- Walks towards ChunkCuts: chunk.Cut with its errors, tollbarref12.Cut, tollbarref12.Pieces. -/
import Derived.Test.YtcdneioaifmilaaDoorSure
import Derived.Test.YtcdneioaifmilaaDoorNum
import Derived.Deep.LoopGhost
namespace Go.Proofs.YtcdneioaifmilaaDoor
open Go.RowKit
set_option linter.unusedVariables false
set_option linter.unusedSimpArgs false
theorem cut_badsize (A : Option Addr) (n c : Nat) (o s : Int) (w : World) (h : decide (s < 1) = true ∨ decide (s < 1) = false ∧ 1048576 < s) :
    Calls Tryd.prog 5 #[.slice A n c, .int .i64 o, .int .i64 s] w fun e w' => e = .returned (.tuple #[.slice none 0 0, .bool false, .iface 40 (.int .i64 1)]) ∧ w' = w := by
  rcases h with h | ⟨h, h'⟩
  all_goals
    go_enter Tryd.func5, Tryd.ntmps5
    go_wp2_with fail
    go_ret3
    exact ⟨rfl, rfl⟩
theorem cut_badoff (A : Option Addr) (n c : Nat) (o s : Int) (w : World) (h : decide (s < 1) = false) (h' : s ≤ 1048576) (h2 : decide (o < 0) = true ∨ (decide (o < 0) = false ∧ decide ((n : Int) < o) = true) ∨ (decide (o < 0) = false ∧ decide ((n : Int) < o) = false ∧ (o == (n : Int)) = true ∧ 0 < o)) :
    Calls Tryd.prog 5 #[.slice A n c, .int .i64 o, .int .i64 s] w fun e w' => e = .returned (.tuple #[.slice none 0 0, .bool false, .iface 40 (.int .i64 4)]) ∧ w' = w := by
  rcases h2 with h2 | ⟨h2, h3⟩ | ⟨h2, h3, h4, h5⟩
  all_goals
    go_enter Tryd.func5, Tryd.ntmps5
    go_wp2_with fail
    go_ret3
    exact ⟨rfl, rfl⟩
def CutPostE (W : World) (l : List UInt8) (last : Bool) (er : Value) (e : Ending) (w' : World) : Prop :=
  ∃ A n c, e = .returned (.tuple #[.slice A n c, .bool last, er]) ∧ Rd w' T 1 A n (bs l) ∧ Below W.heap.size W w'
def cutF (t : List UInt8) (o s : Int) : List UInt8 × Bool × Int :=
  if s < 1 ∨ 1048576 < s then ([], false, 1)
  else if o < 0 ∨ (t.length : Int) < o ∨ (o = t.length ∧ 0 < o) then ([], false, 4)
  else ((t.drop o.toNat).take s.toNat, decide (t.length ≤ o.toNat + s.toNat), 0)
theorem cut_any (A : Option Addr) (n c : Nat) (t : List UInt8) (o s : Int) (w : World) {ok : Nat → Prop} (hr : Rd w ok 1 A n (bs t)) (hc : n ≤ c) (hn : n ≤ 1048576) :
    Calls Tryd.prog 5 #[.slice A n c, .int .i64 o, .int .i64 s] w (CutPostE w (cutF t o s).1 (cutF t o s).2.1 (errV (cutF t o s).2.2)) := by
  have hl := hr.blen
  unfold cutF
  by_cases h1 : s < 1 ∨ 1048576 < s
  · rw [if_pos h1]
    have h2 : decide (s < 1) = true ∨ decide (s < 1) = false ∧ 1048576 < s := by
      by_cases h : s < 1
      · exact .inl (by simpa using h)
      · exact .inr ⟨by simpa using h, by omega⟩
    refine (cut_badsize A n c o s w h2).mono ?_
    rintro e w' ⟨rfl, rfl⟩
    exact ⟨none, 0, 0, by simp [errV], Rd.none_, Below.refl _ _⟩
  · rw [if_neg h1]
    by_cases h2 : o < 0 ∨ (t.length : Int) < o ∨ (o = t.length ∧ 0 < o)
    · rw [if_pos h2]
      have h3 : decide (o < 0) = true ∨ (decide (o < 0) = false ∧ decide ((n : Int) < o) = true) ∨ (decide (o < 0) = false ∧ decide ((n : Int) < o) = false ∧ (o == (n : Int)) = true ∧ 0 < o) := by
        by_cases h4 : o < 0
        · exact .inl (by simpa using h4)
        · by_cases h5 : (n : Int) < o
          · exact .inr (.inl ⟨by simpa using h4, by simpa using h5⟩)
          · exact .inr (.inr ⟨by simpa using h4, by simpa using h5, by simp; omega, by omega⟩)
      refine (cut_badoff A n c o s w (by simp; omega) (by omega) h3).mono ?_
      rintro e w' ⟨rfl, rfl⟩
      exact ⟨none, 0, 0, by simp [errV], Rd.none_, Below.refl _ _⟩
    · rw [if_neg h2]
      refine (cut_at A n c t o.toNat s.toNat o s w hr hc hn (by omega) (by omega) (by omega) (by omega) (by omega)).mono ?_
      rintro e w' ⟨A1, n1, c1, rfl, r1, _, hb⟩
      refine ⟨A1, n1, c1, ?_, r1, hb⟩
      simp only [errV, if_pos]
      rw [hl]
theorem refCut_bad (A : Option Addr) (n c : Nat) (o s : Int) (w : World) (k : Int) (h : (k = 1 ∧ decide (s < 1) = true) ∨ (k = 1 ∧ decide (s < 1) = false ∧ 1048576 < s) ∨ (k = 4 ∧ decide (s < 1) = false ∧ s ≤ 1048576 ∧ (decide (o < 0) = true ∨ (decide (o < 0) = false ∧ decide ((n : Int) < o) = true) ∨ (decide (o < 0) = false ∧ decide ((n : Int) < o) = false ∧ (o == (n : Int)) = true ∧ 0 < (n : Int))))) :
    Calls Tryd.prog 6 #[.slice A n c, .int .i64 o, .int .i64 s] w fun e w' => e = .returned (.tuple #[.slice none 0 0, .bool false, .int .i64 k]) ∧ w' = w := by
  rcases h with ⟨rfl, h⟩ | ⟨rfl, h, h'⟩ | ⟨rfl, h, h', h2 | ⟨h2, h3⟩ | ⟨h2, h3, h4, h5⟩⟩
  all_goals
    go_enter Tryd.func6, Tryd.ntmps6
    go_wp2_with fail
    go_ret3
    exact ⟨rfl, rfl⟩

theorem refCut_ok (A : Option Addr) (n c : Nat) (t : List UInt8) (off size : Nat) (w : World) {ok : Nat → Prop} (hr : Rd w ok 1 A n (bs t)) (hc : n ≤ c) (hn : n ≤ 1048576) (h1 : 1 ≤ size) (h2 : size ≤ 1048576)
    (h4 : ((off : Int) == n) = true ∧ decide (0 < n) = false ∨ ((off : Int) == n) = false ∧ off < n) :
    Calls Tryd.prog 6 #[.slice A n c, .int .i64 off, .int .i64 size] w (CutPostE w ((t.drop off).take size) (decide (n ≤ off + size)) (.int .i64 0)) := by
  have hoff : off ≤ n := by
    rcases h4 with ⟨a, _⟩ | ⟨_, a⟩
    · simp at a; omega
    · omega
  have hl := hr.blen
  by_cases h3 : n - off ≤ size
  · obtain ⟨A1, e1, r1⟩ : ∃ A1, (∀ W, (Instr.sliceAt 22 (.slice A n c) (some (.int .i64 (off : Int))) none none).run Tryd.prog W = .ok (.slice A1 (n - off) (c - off)) W) ∧ Rd w ok 1 A1 (n - off) (bs ((t.drop off).take (n - off))) :=
      ⟨_, fun W => by have := run_slice_lo (P := Tryd.prog) 22 Tryd.underlying22 (size := 1) (by kernel_rfl) A n c W off hoff; simpa using this, by simpa using hr.bsub (i := off) (k := n - off) (m := c) (by omega) (by omega)⟩
    have e2 : (t.drop off).take size = (t.drop off).take (n - off) := by
      rw [List.take_of_length_le (by simp; omega), List.take_of_length_le (by simp; omega)]
    have e3 : decide (n ≤ off + size) = true := by simp; omega
    rw [e2, e3]
    have h5 : (n : Int) - off ≤ size := by omega
    clear e2 e3 hl
    rcases h4 with ⟨h4, h4'⟩ | ⟨h4, h4'⟩
    all_goals
      go_enter Tryd.func6, Tryd.ntmps6
      go_wp2_with fail
      go_ret3
      exact ⟨A1, _, _, rfl, r1.any, Below.refl _ _⟩
  · obtain ⟨A1, e1, r1⟩ : ∃ A1, (∀ W, (Instr.sliceAt 22 (.slice A n c) (some (.int .i64 (off : Int))) (some (.int .i64 ((off : Int) + (size : Int)))) none).run Tryd.prog W = .ok (.slice A1 size (c - off)) W) ∧ Rd w ok 1 A1 size (bs ((t.drop off).take size)) :=
      ⟨_, fun W => by have := run_slice_lohi (P := Tryd.prog) 22 Tryd.underlying22 (size := 1) (by kernel_rfl) A n c W off (off + size) (by omega) (by omega); rw [show off + size - off = size from by omega] at this; simpa using this, by simpa using hr.bsub (i := off) (k := size) (m := c) (by omega) (by omega)⟩
    have e3 : decide (n ≤ off + size) = false := by simp; omega
    rw [e3]
    have h5 : ¬ (n : Int) - off ≤ size := by omega
    clear e3 hl
    rcases h4 with ⟨h4, h4'⟩ | ⟨h4, h4'⟩
    · exfalso; simp at h4 h4'; omega
    · go_enter Tryd.func6, Tryd.ntmps6
      go_wp2_with fail
      go_ret3
      exact ⟨A1, _, _, rfl, r1.any, Below.refl _ _⟩
theorem refCut_any (A : Option Addr) (n c : Nat) (t : List UInt8) (o s : Int) (w : World) {ok : Nat → Prop} (hr : Rd w ok 1 A n (bs t)) (hc : n ≤ c) (hn : n ≤ 1048576) :
    Calls Tryd.prog 6 #[.slice A n c, .int .i64 o, .int .i64 s] w (CutPostE w (cutF t o s).1 (cutF t o s).2.1 (.int .i64 (cutF t o s).2.2)) := by
  have hl := hr.blen
  unfold cutF
  by_cases h1 : s < 1 ∨ 1048576 < s
  · rw [if_pos h1]
    refine (refCut_bad A n c o s w 1 ?_).mono ?_
    · by_cases h : s < 1
      · exact .inl ⟨rfl, by simpa using h⟩
      · exact .inr (.inl ⟨rfl, by simpa using h, by omega⟩)
    · rintro e w' ⟨rfl, rfl⟩
      exact ⟨none, 0, 0, rfl, Rd.none_, Below.refl _ _⟩
  · rw [if_neg h1]
    by_cases h2 : o < 0 ∨ (t.length : Int) < o ∨ (o = t.length ∧ 0 < o)
    · rw [if_pos h2]
      refine (refCut_bad A n c o s w 4 (.inr (.inr ⟨rfl, by simp; omega, by omega, ?_⟩))).mono ?_
      · by_cases h4 : o < 0
        · exact .inl (by simpa using h4)
        · by_cases h5 : (n : Int) < o
          · exact .inr (.inl ⟨by simpa using h4, by simpa using h5⟩)
          · exact .inr (.inr ⟨by simpa using h4, by simpa using h5, by simp; omega, by omega⟩)
      · rintro e w' ⟨rfl, rfl⟩
        exact ⟨none, 0, 0, rfl, Rd.none_, Below.refl _ _⟩
    · rw [if_neg h2]
      obtain ⟨off, rfl⟩ : ∃ off : Nat, o = off := ⟨o.toNat, by omega⟩
      obtain ⟨size, rfl⟩ : ∃ size : Nat, s = size := ⟨s.toNat, by omega⟩
      refine (refCut_ok A n c t off size w hr hc hn (by omega) (by omega) ?_).mono ?_
      · by_cases h3 : off = n
        · exact .inl ⟨by simp; omega, by simp; omega⟩
        · exact .inr ⟨by simp; omega, by omega⟩
      · rintro e w' h
        simp only [Int.toNat_natCast]
        rw [hl]
        exact h
/-- The number of pieces, counted. -/
theorem refPieces_bad (A : Option Addr) (n c : Nat) (s : Int) (w : World) (h : decide (s < 1) = true ∨ decide (s < 1) = false ∧ 1048576 < s) :
    Calls Tryd.prog 8 #[.slice A n c, .int .i64 s] w fun e w' => e = .returned (.tuple #[.int .i64 0, .int .i64 1]) ∧ w' = w := by
  rcases h with h | ⟨h, h'⟩
  all_goals
    go_enter Tryd.func8, Tryd.ntmps8
    go_wp2_with fail
    go_ret2
    exact ⟨rfl, rfl⟩
theorem pieces_bad (A : Option Addr) (n c : Nat) (s : Int) (w : World) (h : decide (s < 1) = true ∨ decide (s < 1) = false ∧ 1048576 < s) :
    Calls Tryd.prog 7 #[.slice A n c, .int .i64 s] w fun e w' => e = .returned (.tuple #[.int .i64 0, .iface 40 (.int .i64 1)]) ∧ w' = w := by
  rcases h with h | ⟨h, h'⟩
  all_goals
    go_enter Tryd.func7, Tryd.ntmps7
    go_wp2_with fail
    go_ret2
    exact ⟨rfl, rfl⟩
theorem refPieces_ok (A : Option Addr) (n c : Nat) (size : Nat) (w : World) (hn : n ≤ 1048576) (h1 : 1 ≤ size) (h2 : size ≤ 1048576) :
    Calls Tryd.prog 8 #[.slice A n c, .int .i64 size] w fun e w' => e = .returned (.tuple #[.int .i64 (((n - 1) / size + 1 : Nat) : Int), .int .i64 0]) ∧ w' = w := by
  obtain ⟨N, hN⟩ : ∃ N, N = (n - 1) / size := ⟨_, rfl⟩
  have hN2 : N ≤ 1048576 := by have := Nat.div_le_self (n - 1) size; omega
  rw [← hN]
  have HN := Lib.hid hN
  clear hN
  go_enter Tryd.func8, Tryd.ntmps8
  go_wp2_with fail
  go_loopg [6, 7] (N + 1) (fun k s6 s7 wr => ∃ (j a : Nat), k = N + 1 - j ∧ s6 = .int .i64 j ∧ s7 = .int .i64 a ∧ a = j * size ∧ (j ≤ 1 ∨ a < n + size) ∧ wr = w)
  case atStart => exact ⟨0, 0, by omega, rfl, rfl, by simp, .inl (by omega), rfl⟩
  case round =>
    obtain ⟨j, a, hk, rfl, rfl, ha, hlt, rfl⟩ := hrel
    have Hk := Lib.hid hk
    have Ha := Lib.hid ha
    have ha2 : a ≤ 3000000 := by
      rcases hlt with h | h
      · have : j * size ≤ 1 * size := Nat.mul_le_mul_right size h
        omega
      · omega
    have hj : j ≤ 3000000 := by
      have : j ≤ j * size := Nat.le_mul_of_pos_right j (by omega)
      omega
    clear hk ha
    by_cases h3 : a < n ∨ j = 0
    · have h4 : a < n ∨ decide (a < n) = false ∧ ((j : Int) == 0) = true := by
        by_cases h5 : a < n
        · exact .inl h5
        · exact .inr ⟨by simpa using h5, by simp; omega⟩
      have h5 : j < N + 1 := by
        have e1 := HN.out
        have e2 := Ha.out
        rcases h3 with h3 | h3
        · have : j ≤ (n - 1) / size := (Nat.le_div_iff_mul_le (by omega)).2 (by omega)
          omega
        · omega
      rcases h4 with h4 | ⟨h4, h6⟩
      all_goals
        go_wp2_with fail
        go_roundg (N + 1 - (j + 1))
        case measure => have := Hk.out; omega
        case rel => exact ⟨j + 1, a + size, rfl, by go_num, by go_num, by rw [Ha.out, Nat.add_mul, Nat.one_mul], by omega, rfl⟩
    · have h4 : decide (a < n) = false := by simp; omega
      have h5 : ((j : Int) == 0) = false := by simp; omega
      have h6 : j = N + 1 := by
        have e1 := HN.out
        have e2 := Ha.out
        have q1 : ¬ j ≤ (n - 1) / size := fun h => by
          have := (Nat.le_div_iff_mul_le (by omega)).1 h
          by_cases hn0 : n = 0
          · subst hn0
            have : 0 < j * size := Nat.mul_pos (by omega) (by omega)
            omega
          · omega
        have q2 : j - 1 ≤ (n - 1) / size := by
          rcases hlt with h | h
          · have : j - 1 = 0 := by omega
            omega
          refine (Nat.le_div_iff_mul_le (by omega)).2 ?_
          have : (j - 1) * size + size = j * size := by
            rw [← Nat.succ_mul]; congr 1; omega
          omega
        omega
      have H6 := Lib.hid h6
      clear h6
      go_wp2_with fail
      go_ret2
      rw [H6.out]
      exact ⟨rfl, rfl⟩
end Go.Proofs.YtcdneioaifmilaaDoor
