/- Walk of the log's back -/
import Derived.Test.YtmhaahcbmdhinaaGreatDoorZM6
import Derived.WalkMore
import Derived.ScopeJumps
namespace Go.Proofs.YtmhaahcbmdhinaaGreatDoor
open Go.RowKit
set_option maxRecDepth 1000000
set_option linter.unusedVariables false
set_option linter.unusedSimpArgs false
def intIn9 : Value → Int | .int _ q => q | _ => 0
def AnyInt (W : World) (e : Ending) (w' : World) : Prop := ∃ z : Int, e = .returned (.int .i64 z) ∧ Below W.heap.size W w'
set_option maxHeartbeats 1600000 in
theorem back_any (b t ix : Int) (A : Option Addr) (n c : Nat) (L : List Er) (w : World) {ok : Nat → Prop} (hr : Rd w ok 4 A n (flat ecell L)) (hn : n ≤ 1000000) (h0 : 0 ≤ b) (hb : b ≤ 1099511627776) (h1 : b < ix) (h2 : ix ≤ b + n) :
  Calls Tryz.prog 181 #[.agg #[.int .i64 b, .int .i64 t, .slice A n c], .int .i64 ix] w (AnyInt w) := by
 have key : ∀ z : Int, b < z → z ≤ b + n → ∃ (m : Nat) (bk o : Nat) (y : Int), A = some ⟨bk, o, none⟩ ∧ (m : Int) < n ∧ (0 : Int) ≤ m ∧ IntKind.i64.wrap (z - b) = z - b ∧ IntKind.i64.wrap (z - b - 1) = (m : Int) ∧ (w.alloc (.cells #[.int .i64 b, .int .i64 t, .slice A n c] 38)).cell? ⟨bk, o + m * 4 + 1, none⟩ = some (.int .i64 y) := by
  intro z hz1 hz2
  obtain ⟨m, hm⟩ : ∃ m : Nat, z - b - 1 = (m : Int) := ⟨(z - b - 1).toNat, by omega⟩
  obtain ⟨bk, o, x, e, _, hbl, hx, c0, c1, c2, c3⟩ := er_cells hr (j := m) (by omega)
  refine ⟨m, bk, o, x.b, e, by omega, by omega, by rw [IntKind.wrap_i64]; omega, by rw [IntKind.wrap_i64]; omega, ?_⟩
  exact (((Below.refl w.heap.size w).alloc (Nat.le_refl _) (.cells #[.int .i64 b, .int .i64 t, .slice A n c] 38)).cell (p := ⟨bk, o + m * 4 + 1, none⟩) hbl).trans c1
 have Key := Lib.hid key
 clear key hr
 obtain ⟨m0, bk, o0, y, rfl, k1, k2, k3, k4, k5⟩ := Key.out ix h1 h2
 go_enter Tryz.func181, Tryz.ntmps181
 go_wp2_with fail
 refine wp_scope_jumps 0 (fun a' w' => w' = w.alloc (.cells #[.int .i64 b, .int .i64 t, .slice (some ⟨bk, o0, none⟩) n c] 38) ∧ ∃ (z : Int) (u6 u7 u8 u9 u10 u11 u12 u13 u14 u15 u16 u17 u18 u19 u20 u21 u22 u23 u24 u25 u26 u27 u28 u29 u30 u31 u32 u33 u34 u35 : Value), a' = { tmps := #[.agg #[.int .i64 b, .int .i64 t, .slice (some ⟨bk, o0, none⟩) n c], .int .i64 z, .pointer (some ⟨w.heap.size, 0, none⟩), undef, .int .i64 0, .int .i64 y, u6, u7, u8, u9, u10, u11, u12, u13, u14, u15, u16, u17, u18, u19, u20, u21, u22, u23, u24, u25, u26, u27, u28, u29, u30, u31, u32, u33, u34, u35, undef], defers := [] } ∧ b ≤ z ∧ z ≤ b + n) (fun a' _ => (intIn9 (a'.tmps.getD 1 undef) - b).toNat) rfl ?_ ?_
 ·go_wp2_with fail
  go_step3
  go_wp2_with fail
  go_step3
  refine ⟨rfl, rfl, ix - 1, _, _, _, _, _, _, _, _, _, _, _, _, _, _, _, _, _, _, _, _, _, _, _, _, _, _, _, _, _, _, rfl, by omega, by omega⟩
 ·rintro a' w' ⟨rfl, z, u6, u7, u8, u9, u10, u11, u12, u13, u14, u15, u16, u17, u18, u19, u20, u21, u22, u23, u24, u25, u26, u27, u28, u29, u30, u31, u32, u33, u34, u35, rfl, hz1, hz2⟩
  by_cases hzb : b < z
  ·obtain ⟨m, bk', o', y', e', j1, j2, j3, j4, j5⟩ := Key.out z hzb hz2
   obtain ⟨rfl, rfl⟩ : bk = bk' ∧ o0 = o' := by injection e' with e'; injection e' with e1 e2 _; exact ⟨e1, e2⟩
   clear e' k1 k2 k3 k4 k5
   by_cases hy : y' = y
   ·subst hy
    go_wp2_with fail
    go_step3
    have w1 : IntKind.i64.wrap (z - 1) = z - 1 := by rw [IntKind.wrap_i64]; omega
    try rw [w1]
    refine ⟨rfl, ⟨rfl, z - 1, _, _, _, _, _, _, _, _, _, _, _, _, _, _, _, _, _, _, _, _, _, _, _, _, _, _, _, _, _, _, rfl, by omega, by omega⟩, ?_⟩
    simp [intIn9]
    omega
   ·have hyf : (y' == y) = false := by simpa using hy
    go_wp2_with fail
    all_goals
     simp only [Exit.jump]
     go_ret
     exact ⟨_, rfl, (Below.refl _ _).alloc (Nat.le_refl _) _⟩
  ·go_wp2_with fail
   all_goals
    simp only [Exit.jump]
    go_ret
    exact ⟨_, rfl, (Below.refl _ _).alloc (Nat.le_refl _) _⟩
end Go.Proofs.YtmhaahcbmdhinaaGreatDoor
