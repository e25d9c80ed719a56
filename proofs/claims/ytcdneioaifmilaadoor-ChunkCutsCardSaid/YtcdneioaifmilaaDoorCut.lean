/- Walks of chunk.Cut and chunk.Pieces. -/
import Derived.Test.YtcdneioaifmilaaDoorWalkA
namespace Go.Proofs.YtcdneioaifmilaaDoor
open Go.RowKit
set_option linter.unusedVariables false
set_option linter.unusedSimpArgs false

def CutPost (W : World) (l : List UInt8) (last : Bool) (e : Ending) (w' : World) : Prop :=
  ∃ A n c, e = .returned (.tuple #[.slice A n c, .bool last, .nilIface]) ∧ Rd w' T 1 A n (bs l) ∧ n ≤ c ∧ Below W.heap.size W w'

/-- The piece of a text: it ends at E, of k bytes. -/
theorem cut_ok (A : Option Addr) (n c : Nat) (t : List UInt8) (off size : Nat) (w : World) {ok : Nat → Prop} (hr : Rd w ok 1 A n (bs t)) (hc : n ≤ c) (hn : n ≤ 1048576) (h1 : 1 ≤ size) (h2 : size ≤ 1048576)
    (h4 : ((off : Int) == n) = true ∧ off = 0 ∨ ((off : Int) == n) = false ∧ off < n) (last : Bool) (k : Nat) (h5 : (off + size < n ∧ k = size ∧ last = false) ∨ (n ≤ off + size ∧ k = n - off ∧ last = true)) :
    Calls Tryd.prog 5 #[.slice A n c, .int .i64 off, .int .i64 size] w (CutPost w ((t.drop off).take k) last) := by
  rcases h5 with ⟨h5, rfl, rfl⟩ | ⟨h5, rfl, rfl⟩ <;> rcases h4 with ⟨h4, h4'⟩ | ⟨h4, h4'⟩
  · exfalso; simp at h4; omega
  · obtain ⟨A1, e1, r1⟩ : ∃ A1, (∀ W, (Instr.sliceAt 22 (.slice A n c) (some (.int .i64 (off : Int))) (some (.int .i64 ((off : Int) + (k : Int)))) (some (.int .i64 ((off : Int) + (k : Int))))).run Tryd.prog W = .ok (.slice A1 k k) W) ∧ Rd w ok 1 A1 k (bs ((t.drop off).take k)) :=
      ⟨_, fun W => by have := run_slice3 _ Tryd.underlying22 (size := 1) (by kernel_rfl) A n c off (off + k) (off + k) (by omega) (Nat.le_refl _) (by omega) W; rw [show (off + k) - off = k from by omega] at this; simpa using this, by simpa using hr.bsub (i := off) (k := k) (m := (off + k)) (by omega) (by omega)⟩
    have h6 : (((off : Int) + (k : Int)) == (n : Int)) = false := by simp; omega
    go_enter Tryd.func5, Tryd.ntmps5
    go_wp2_with fail
    refine (clone_any A1 k k _ _ r1 (bs_one _) (by omega)).mono ?_
    rintro e w1 ⟨A2, c2, rfl, hown1, hb1⟩
    go_wp2_with fail
    go_ret3
    obtain ⟨A3, c3, e3, h7, _⟩ := own_form hown1
    injection e3 with e3 e4 e5
    exact ⟨A2, _, c2, rfl, (Rd.of_own hown1).any, by omega, hb1⟩
  · subst h4'
    have h4' : (n : Int) = 0 := by simp at h4; omega
    obtain rfl : n = 0 := by omega
    have hx : bs t = [] := hr.nil_of_zero
    have ht : t = [] := by cases t with | nil => rfl | cons a b => simp [bs] at hx
    subst ht
    go_enter Tryd.func5, Tryd.ntmps5
    go_wp2_with fail
    refine (clone_any A 0 0 [] _ (ok := T) ⟨rfl, fun h => absurd h (by omega)⟩ (by simp) (by omega)).mono ?_
    rintro e w1 ⟨A2, c2, rfl, hown1, hb1⟩
    go_wp2_with fail
    go_ret3
    exact ⟨A2, _, c2, rfl, by simpa [bs_nil] using (Rd.of_own hown1).any, by omega, hb1⟩
  · obtain ⟨A1, e1, r1⟩ : ∃ A1, (∀ W, (Instr.sliceAt 22 (.slice A n c) (some (.int .i64 (off : Int))) (some (.int .i64 (n : Int))) (some (.int .i64 (n : Int)))).run Tryd.prog W = .ok (.slice A1 (n - off) (n - off)) W) ∧ Rd w ok 1 A1 (n - off) (bs ((t.drop off).take (n - off))) :=
      ⟨_, fun W => by have := run_slice3 _ Tryd.underlying22 (size := 1) (by kernel_rfl) A n c off n n (by omega) (Nat.le_refl _) (by omega) W; rw [show n - off = (n - off) from by omega] at this; simpa using this, by simpa using hr.bsub (i := off) (k := n - off) (m := n) (by omega) (by omega)⟩
    have h6 : ((n : Int) == (n : Int)) = true := by simp
    go_enter Tryd.func5, Tryd.ntmps5
    go_wp2_with fail
    refine (clone_any A1 (n - off) (n - off) _ _ r1 (bs_one _) (by omega)).mono ?_
    rintro e w1 ⟨A2, c2, rfl, hown1, hb1⟩
    go_wp2_with fail
    go_ret3
    obtain ⟨A3, c3, e3, h7, _⟩ := own_form hown1
    injection e3 with e3 e4 e5
    exact ⟨A2, _, c2, rfl, (Rd.of_own hown1).any, by omega, hb1⟩

theorem ret2_int {k : IntKind} {a b : Int} {v : Value} (h : a = b) : Ending.returned (.tuple #[.int k a, v]) = .returned (.tuple #[.int k b, v]) := by rw [h]
theorem pieces_ok (A : Option Addr) (n c : Nat) (size : Nat) (w : World) (hn : n ≤ 9223372036854775807) (h1 : 1 ≤ size) (h2 : size ≤ 1048576) :
    Calls Tryd.prog 7 #[.slice A n c, .int .i64 size] w fun e w' => e = .returned (.tuple #[.int .i64 (((n - 1) / size + 1 : Nat) : Int), .nilIface]) ∧ w' = w := by
  rcases Nat.eq_zero_or_pos n with h0 | h0
  · subst h0
    have e1 : (0 - 1) / size + 1 = 1 := by simp
    rw [e1]
    clear e1
    by_cases h3 : size = 1
    · subst h3
      go_enter Tryd.func7, Tryd.ntmps7
      go_wp2_with fail
      go_ret2
      exact ⟨rfl, rfl⟩
    · have e2 : (-1 : Int).tdiv size = 0 := by
        rw [Int.neg_tdiv, Int.tdiv_eq_zero_of_lt (by omega) (by omega)]; rfl
      go_enter Tryd.func7, Tryd.ntmps7
      go_wp2_with fail
      all_goals (go_ret2; exact ⟨rfl, rfl⟩)
  · obtain ⟨j, rfl⟩ : ∃ j, n = j + 1 := ⟨n - 1, by omega⟩
    have hq : 0 ≤ (j : Int) / size := Int.ediv_nonneg (by omega) (by omega)
    have hq2 : (j : Int) / size ≤ j := Int.ediv_le_self _ (by omega)
    go_enter Tryd.func7, Tryd.ntmps7
    go_wp2_with fail
    all_goals (go_ret2; exact ⟨ret2_int (by first | rfl | omega), rfl⟩)

/-- The same at whatever spelling of the two numbers. -/
theorem cut_at (A : Option Addr) (n c : Nat) (t : List UInt8) (off size : Nat) (o s : Int) (w : World) {ok : Nat → Prop} (hr : Rd w ok 1 A n (bs t)) (hc : n ≤ c) (hn : n ≤ 1048576) (h1 : 1 ≤ size) (h2 : size ≤ 1048576)
    (h4 : off = n ∧ off = 0 ∨ off < n) (ho : o = off) (hs : s = size) :
    Calls Tryd.prog 5 #[.slice A n c, .int .i64 o, .int .i64 s] w (CutPost w ((t.drop off).take size) (decide (n ≤ off + size))) := by
  subst ho hs
  have hl := hr.blen
  have h4' : ((off : Int) == n) = true ∧ off = 0 ∨ ((off : Int) == n) = false ∧ off < n := by
    rcases h4 with ⟨a, b⟩ | a
    · exact .inl ⟨by simp; omega, b⟩
    · exact .inr ⟨by simp; omega, a⟩
  by_cases h : off + size < n
  · have := cut_ok A n c t off size w hr hc hn h1 h2 h4' false size (.inl ⟨h, rfl, rfl⟩)
    rwa [show decide (n ≤ off + size) = false from by simp; omega]
  · have := cut_ok A n c t off size w hr hc hn h1 h2 h4' true (n - off) (.inr ⟨by omega, rfl, rfl⟩)
    rw [show decide (n ≤ off + size) = true from by simp; omega]
    have e : (t.drop off).take size = (t.drop off).take (n - off) := by
      rw [List.take_of_length_le (by simp; omega), List.take_of_length_le (by simp; omega)]
    rwa [e]
end Go.Proofs.YtcdneioaifmilaaDoor
