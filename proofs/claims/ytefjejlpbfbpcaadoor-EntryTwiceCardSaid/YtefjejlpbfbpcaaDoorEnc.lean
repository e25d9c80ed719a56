/- Walk of entry.Encode. -/
import Derived.Test.YtefjejlpbfbpcaaDoorPack
import Derived.Test.YtefjejlpbfbpcaaDoorFlat
import Derived.Test.YtefjejlpbfbpcaaDoorGive
namespace Go.Proofs.YtefjejlpbfbpcaaDoor
open Go.RowKit
set_option maxRecDepth 100000
set_option linter.unusedVariables false
set_option linter.unusedSimpArgs false
attribute [local go_sem ↓] Go.wp_at_zero Go.wp_at_succ
theorem uintL_len (u : Nat) (hu : u < 18446744073709551616) : (uintL u).length ≤ 22 := by
  have h := dig_size u hu
  have : (Lib.decDigits u).length ≤ 20 := h
  simp [uintL]
  omega
/-- An entry's bytes. -/
def encN (a b c : Nat) (d : List UInt8) : List UInt8 := [] ++ uintL a ++ uintL b ++ uintL c ++ bytesL d
def encE (e : En) : List UInt8 := encN e.a.toNat e.b.toNat e.c.toNat e.d
def BytesPost (W : World) (l : List UInt8) (e : Ending) (w' : World) : Prop := ∃ A n c, e = .returned (.slice A n c) ∧ w'.ownsRow W.heap.size 5 1 (.slice A n c) n (bs l) ∧ Below W.heap.size W w'
set_option maxHeartbeats 3200000 in
theorem encode_nat (a b c : Nat) (A : Option Addr) (n m : Nat) (d : List UInt8) (w : World) (ha : a ≤ 9223372036854775807) (hb' : b ≤ 9223372036854775807) (hc' : c ≤ 9223372036854775807) (hr : Rd w T 1 A n (bs d)) (hn : n ≤ 1000000) (htab : TabW w) :
    Calls Tryd.prog 13 #[.agg #[.int .i64 a, .int .i64 b, .int .i64 c, .slice A n m]] w (BytesPost w (encN a b c d)) := by
  obtain ⟨W0, hW0⟩ : ∃ W0, W0 = w.alloc (.cells #[.int .i64 a, .int .i64 b, .int .i64 c, .slice A n m] 39) := ⟨_, rfl⟩
  have b0 : Bx W0 w.heap.size #[.int .i64 a, .int .i64 b, .int .i64 c, .slice A n m] := by subst hW0; exact Bx.new _ _ _ rfl
  have r0 : Rd W0 (· < W0.heap.size) 1 A n (bs d) := by subst hW0; exact ((hr.alloc _).lt (by omega)).mono fun b hb => hb.2
  have hbe : Below w.heap.size w W0 := by subst hW0; exact (Below.refl _ _).alloc (Nat.le_refl _) _
  have t0 : TabW W0 := htab.below hbe (Nat.le_refl _)
  have hz : W0.heap.size = w.heap.size + 1 := by subst hW0; simp
  have hdn : d.length = n := hr.blen
  have sof : ∀ W, Below W0.heap.size W0 W → (Below W0.heap.size W0 W ∧ W.cell? ⟨w.heap.size, 0, none⟩ = some (.int .i64 a) ∧ W.cell? ⟨w.heap.size, 1, none⟩ = some (.int .i64 b) ∧ W.cell? ⟨w.heap.size, 2, none⟩ = some (.int .i64 c) ∧ W.cell? ⟨w.heap.size, 3, none⟩ = some (.slice A n m)) :=
    fun W h => ⟨h, (b0.under h (by omega)).c 0, (b0.under h (by omega)).c 1, (b0.under h (by omega)).c 2, (b0.under h (by omega)).c 3⟩
  have s0 := sof _ (Below.refl _ _)
  have la := uintL_len a (by omega)
  have lb := uintL_len b (by omega)
  have lc := uintL_len c (by omega)
  have ld : (bytesL d).length ≤ n + 22 := by
    have h := dig_size d.length (by omega)
    have : (Lib.decDigits d.length).length ≤ 20 := h
    simp [bytesL]
    omega
  have hnew : ∀ W, Below W0.heap.size W0 W → Calls Tryd.prog 39 #[] W (fun e w' => e = .returned (.pointer (some ⟨W.heap.size, 0, none⟩)) ∧ Wr w' W0.heap.size W.heap.size [] ∧ Below W0.heap.size W0 w') := fun W hb => (new_any W).mono (by
    rintro e w' ⟨rfl, h, h2⟩
    obtain ⟨A, n, c, k1, k2, k3⟩ := h.ex
    refine ⟨rfl, ⟨A, n, c, k1, hb.size, ?_⟩, hb.trans (h2.mono hb.size)⟩
    refine ⟨k3.1, ?_⟩
    rcases k3.2 with hn | ⟨g, cap, cur, hv, hB, rest⟩
    · exact .inl hn
    · exact .inr ⟨g, cap, cur, hv, Nat.le_trans hb.size hB, rest⟩)
  have huint : ∀ W p l (u : Nat), Below W0.heap.size W0 W → Wr W W0.heap.size p l → u ≤ 9223372036854775807 → l.length ≤ 100 → Calls Tryd.prog 40 #[.pointer (some ⟨p, 0, none⟩), .int .u64 (u : Int)] W (fun e w' => e = .returned (.pointer (some ⟨p, 0, none⟩)) ∧ Wr w' W0.heap.size p (l ++ uintL u) ∧ Below W0.heap.size W0 w') := fun W p l u hb h hu hl => (uint_any W0.heap.size p l u (by omega) W h (by omega) (t0.below hb (Nat.le_refl _)) hb.size).mono (by
    rintro e w' ⟨rfl, h, h2⟩
    exact ⟨rfl, h, hb.trans h2⟩)
  have hbytes : ∀ W p l, Below W0.heap.size W0 W → Wr W W0.heap.size p l → l.length ≤ 100 → Calls Tryd.prog 41 #[.pointer (some ⟨p, 0, none⟩), .slice A n m] W (fun e w' => e = .returned (.pointer (some ⟨p, 0, none⟩)) ∧ Wr w' W0.heap.size p (l ++ bytesL d) ∧ Below W0.heap.size W0 w') := fun W p l hb h hl => (bytes_any W0.heap.size p l d A n m W h (by omega) (t0.below hb (Nat.le_refl _)) hb.size (r0.keep fun q h1 h2 => hb.block q h1) (by omega)).mono (by
    rintro e w' ⟨rfl, h, h2⟩
    exact ⟨rfl, h, hb.trans h2⟩)
  have hdone : ∀ W p l, Below W0.heap.size W0 W → Wr W W0.heap.size p l → l.length ≤ 2000000 → Calls Tryd.prog 42 #[.pointer (some ⟨p, 0, none⟩)] W (fun e w' => ∃ A N c, e = .returned (.slice A N c) ∧ w'.ownsRow w.heap.size 5 1 (.slice A N c) N (bs l) ∧ Below W0.heap.size W0 w') := fun W p l hb h hl => (done_any W0.heap.size p l W h (by omega)).mono (by
    rintro e w' ⟨A, c, rfl, k3, h2⟩
    have hs := hb.size
    refine ⟨A, _, c, rfl, ⟨k3.1, ?_⟩, hb.trans (h2.mono hb.size)⟩
    rcases k3.2 with hn | ⟨g, cap, cur, hv, hB, rest⟩
    · exact .inl hn
    · exact .inr ⟨g, cap, cur, hv, by omega, rest⟩)
  have wa : IntKind.u64.wrap (a : Int) = (a : Int) := by rw [IntKind.wrap_u64]; omega
  have wb : IntKind.u64.wrap (b : Int) = (b : Int) := by rw [IntKind.wrap_u64]; omega
  have wc : IntKind.u64.wrap (c : Int) = (c : Int) := by rw [IntKind.wrap_u64]; omega
  have Hnew := Lib.hid hnew
  have Huint := Lib.hid huint
  have Hbytes := Lib.hid hbytes
  have Hdone := Lib.hid hdone
  have HW := Lib.hid hW0
  have Hbe := Lib.hid hbe
  clear hW0 b0 r0 hr htab t0 hz hdn hnew huint hbytes hdone hbe
  go_enter Tryd.func13, Tryd.ntmps13
  go_upto_region 1 with (fail)
  rw [← HW.out]
  go_split_ands
  go_region_held3 (fun W => Below W0.heap.size W0 W ∧ W.cell? ⟨w.heap.size, 0, none⟩ = some (.int .i64 a) ∧ W.cell? ⟨w.heap.size, 1, none⟩ = some (.int .i64 b) ∧ W.cell? ⟨w.heap.size, 2, none⟩ = some (.int .i64 c) ∧ W.cell? ⟨w.heap.size, 3, none⟩ = some (.slice A n m)) ((refine sof _ ?_; first | exact (Below.refl _ _).drew | assumption | (go_split_ands; assumption))) (first
    | ((with_reducible refine (Hnew.out _ (by go_split_ands; assumption)).mono ?_); rintro e w1 ⟨rfl, h1, k1⟩; replace h1 : Wr w1 W0.heap.size W0.heap.size [] := h1)
    | ((with_reducible refine (Huint.out _ _ _ _ (by go_split_ands; assumption) (by assumption) (by assumption) (by simp only [List.length_append, List.length_nil]; omega)).mono ?_); rintro e w2 ⟨rfl, h2, k2⟩)
    | ((with_reducible refine (Hbytes.out _ _ _ (by go_split_ands; assumption) (by assumption) (by simp only [List.length_append, List.length_nil]; omega)).mono ?_); rintro e w3 ⟨rfl, h3, k3⟩)
    | ((with_reducible refine (Hdone.out _ _ _ (by go_split_ands; assumption) (by assumption) (by simp only [List.length_append, List.length_nil]; omega)).mono ?_); rintro e w4 ⟨A4, N4, c4, rfl, h4, k4⟩))
  all_goals
    go_wp2_with fail
    go_ret
    exact ⟨_, _, _, rfl, h4, Hbe.out.trans (k4.mono Hbe.out.size)⟩
end Go.Proofs.YtefjejlpbfbpcaaDoor
