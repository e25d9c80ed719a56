/- Walk of tollbarlaw12.ChunkCuts. -/
import Derived.Test.YtcdneioaifmilaaDoorCuts
namespace Go.Proofs.YtcdneioaifmilaaDoor
open Go.RowKit
set_option linter.unusedVariables false
set_option linter.unusedSimpArgs false
def piecesF (n : Nat) (s : Int) : Int × Int := if s < 1 ∨ 1048576 < s then (0, 1) else (((n - 1) / s.toNat + 1 : Nat), 0)
theorem pieces_any (A : Option Addr) (n c : Nat) (s : Int) (w : World) (hn : n ≤ 1048576) :
    Calls Tryd.prog 7 #[.slice A n c, .int .i64 s] w fun e w' => e = .returned (.tuple #[.int .i64 (piecesF n s).1, errV (piecesF n s).2]) ∧ w' = w := by
  unfold piecesF
  by_cases h1 : s < 1 ∨ 1048576 < s
  · rw [if_pos h1]
    refine (pieces_bad A n c s w ?_).mono ?_
    · by_cases h : s < 1
      · exact .inl (by simpa using h)
      · exact .inr ⟨by simpa using h, by omega⟩
    · rintro e w' ⟨rfl, rfl⟩; exact ⟨by simp [errV], rfl⟩
  · rw [if_neg h1]
    obtain ⟨size, rfl⟩ : ∃ size : Nat, s = size := ⟨s.toNat, by omega⟩
    refine (pieces_ok A n c size w (by omega) (by omega) (by omega)).mono ?_
    rintro e w' ⟨rfl, rfl⟩; exact ⟨by simp [errV], rfl⟩
theorem refPieces_any (A : Option Addr) (n c : Nat) (s : Int) (w : World) (hn : n ≤ 1048576) :
    Calls Tryd.prog 8 #[.slice A n c, .int .i64 s] w fun e w' => e = .returned (.tuple #[.int .i64 (piecesF n s).1, .int .i64 (piecesF n s).2]) ∧ w' = w := by
  unfold piecesF
  by_cases h1 : s < 1 ∨ 1048576 < s
  · rw [if_pos h1]
    refine (refPieces_bad A n c s w ?_).mono ?_
    · by_cases h : s < 1
      · exact .inl (by simpa using h)
      · exact .inr ⟨by simpa using h, by omega⟩
    · rintro e w' ⟨rfl, rfl⟩; exact ⟨by simp, rfl⟩
  · rw [if_neg h1]
    obtain ⟨size, rfl⟩ : ∃ size : Nat, s = size := ⟨s.toNat, by omega⟩
    refine (refPieces_ok A n c size w (by omega) (by omega) (by omega)).mono ?_
    rintro e w' ⟨rfl, rfl⟩; exact ⟨by simp, rfl⟩
theorem cuts_long (A : Option Addr) (n c : Nat) (o s : Int) (w : World) (h : 100000 < (n : Int)) :
    Calls Tryd.prog 3 #[.slice A n c, .int .i64 o, .int .i64 s] w (YesPost w) := by
  go_enter Tryd.func3, Tryd.ntmps3
  go_wp2_with fail
  refine (sure_any _).mono ?_
  rintro e w4 ⟨rfl, hb4⟩
  go_wp2_with fail
  go_ret
  exact ⟨rfl, hb4⟩
set_option maxRecDepth 100000 in
set_option maxHeartbeats 800000 in
theorem cuts_walk (A : Option Addr) (n c : Nat) (t : List UInt8) (o s : Int) (w : World) (hg : ErrT w) (hr : Rd w T 1 A n (bs t)) (hc : n ≤ c) (hn : (n : Int) ≤ 100000) :
    Calls Tryd.prog 3 #[.slice A n c, .int .i64 o, .int .i64 s] w (YesPost w) := by
  have Hg := Lib.hid hg
  clear hg
  go_enter Tryd.func3, Tryd.ntmps3
  go_wp2_with fail
  refine (cut_any A n c t o s w hr hc (by omega)).mono ?_
  rintro e w1 ⟨A1, n1, c1, rfl, r1, hb1⟩
  go_wp2_with fail
  refine (refCut_any A n c t o s w1 (hr.below hb1) hc (by omega)).mono ?_
  rintro e w2 ⟨A2, n2, c2, rfl, r2, hb2⟩
  generalize cutF t o s = r at r1 r2 ⊢
  replace r1 := r1.below hb2
  have hb := hb1.trans (hb2.mono hb1.size)
  clear hb1 hb2
  have e1 := cv r1 c1
  have e2 := cv r2 c2
  go_wp2_with fail
  refine (pieces_any A n c s w2 (by omega)).mono ?_
  rintro e w3 ⟨rfl, rfl⟩
  go_wp2_with fail
  refine (refPieces_any A n c s w3 (by omega)).mono ?_
  rintro e w3 ⟨rfl, rfl⟩
  generalize piecesF n s = q
  go_wp2_with fail
  refine (num_any r.2.2 w3 (Hg.out.below hb)).mono ?_
  rintro e w4 ⟨rfl, hb4⟩
  replace hb := hb.trans (hb4.mono hb.size)
  clear hb4 e1 e2
  go_wp2_with fail
  refine (num_any q.2 w4 (Hg.out.below hb)).mono ?_
  rintro e w5 ⟨rfl, hb5⟩
  replace hb := hb.trans (hb5.mono hb.size)
  clear hb5
  go_wp2_with fail
  refine (sure_any _).mono ?_
  rintro e w6 ⟨rfl, hb6⟩
  go_wp2_with fail
  go_ret
  exact ⟨rfl, hb.trans (hb6.mono hb.size)⟩
end Go.Proofs.YtcdneioaifmilaaDoor
