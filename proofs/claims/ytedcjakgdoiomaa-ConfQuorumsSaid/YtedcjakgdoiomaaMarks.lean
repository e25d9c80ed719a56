/- Walk: the law's marks. -/
import Derived.Test.YtedcjakgdoiomaaConf4
namespace Go.Proofs.Ytedcjakgdoiomaa
open Go.RowKit
set_option maxRecDepth 100000
set_option linter.unusedVariables false
set_option linter.unusedSimpArgs false
def MarksPost (W : World) (n : Nat) (l : List Mk) (e : Ending) (w' : World) : Prop := ∃ A c, e = .returned (.slice A n c) ∧ Rd w' (W.heap.size ≤ ·) 2 A n (flat mkc l) ∧ Below W.heap.size W w'
set_option maxHeartbeats 800000 in
theorem marks_any (A : Option Addr) (n c : Nat) (l : List Mk) (w : World) {ok : Nat → Prop} (hr : Rd w ok 2 A n (flat mkc l)) (hn : n ≤ 1000000) :
    Calls Try.prog 13 #[.slice A n c] w (MarksPost w n l) := by
  have Hl := Lib.hid (hr.flen mkc_len (by omega))
  have Hr := Lib.hid hr
  clear hr
  go_enter Try.func13, Try.ntmps13
  go_wp2_with fail
  go_loopg [3, 4] n (fun m s3 s4 wr => ∃ (j : Nat) (A' : Option Addr) (c' : Nat), m = n - j ∧ j ≤ n ∧ s4 = .int .i64 j ∧ s3 = .slice A' j c' ∧ wr.ownsRow w.heap.size 47 2 (.slice A' j c') j (flat mkc (l.take j)) ∧ Below w.heap.size w wr)
  case atStart => exact ⟨0, none, 0, by omega, by omega, rfl, rfl, World.ownsRow_nil _ _ _ _, Below.refl _ _⟩
  case round =>
    obtain ⟨j, A', c', hm, hj, rfl, rfl, hown, hb⟩ := hrel
    have Hm := Lib.hid hm
    clear hm
    by_cases hlt : j < n
    · obtain ⟨b, o, x, rfl, _, _, hx, hc0, hc1⟩ := mk_cells (Hr.out.below hb) hlt
      have hft := flat_take1 l hx
      have Hft := Lib.hid hft
      have hltI : (j : Int) < n := by omega
      have hz := hb.size
      clear hx hft
      go_wp2_with (at_builtin; refine wpList_append_any (news := [.int .i64 x.m, .int .i64 x.n]) _ Try.underlying28 mark_elem rfl (by omega) rfl rfl rfl (hown.alloc _) rfl (Rd.blit rfl).any (by intro u hu; simp only [List.mem_cons, List.not_mem_nil, or_false] at hu; rcases hu with rfl | rfl <;> rfl) (by omega) (by simp; omega) rfl rfl ?_; intro A1 c1 w1 hown1 hg1 hat1)
      go_roundg (n - (j + 1))
      case measure => have := Hm.out; omega
      case rel => exact ⟨j + 1, A1, c1, rfl, by omega, by go_num, rfl, by rw [Hft.out]; exact hown1, (hb.alloc (by omega) _).grown hg1 (by simp; omega) (fun k hk => (own_lt hown k hk).1)⟩
    · obtain rfl : j = n := by omega
      go_wp2_with fail
      go_ret
      rw [List.take_of_length_le (Nat.le_of_eq Hl.out)] at hown
      exact ⟨_, _, rfl, Rd.of_own hown, hb⟩
end Go.Proofs.Ytedcjakgdoiomaa
