/- Walk of tollbarlaw02.SealSums. -/
import Derived.Test.YtbcdanegcknamaaSure2
import Derived.Test.YtbcdanegcknamaaRefSum
namespace Go.Proofs.Ytbcdanegcknamaa
open Go.RowKit
set_option linter.unusedVariables false
set_option linter.unusedSimpArgs false
theorem sums_long (A : Option Addr) (n c : Nat) (B : Option Addr) (m d : Nat) (w : World) (hn : n ≤ 140737488355328) (hm : m ≤ 140737488355328) (h : 20000 < (n : Int) + m) :
    Calls Try.prog 3 #[.slice A n c, .slice B m d] w (YesPost w) := by
  go_enter Try.func3, Try.ntmps3
  go_wp2_with fail
  refine (sure_any _).mono ?_
  rintro e w4 ⟨rfl, hb4⟩
  go_wp2_with fail
  go_ret
  exact ⟨rfl, hb4⟩
set_option maxHeartbeats 800000 in
theorem sums_walk (A : Option Addr) (n c : Nat) (a : List UInt8) (B : Option Addr) (m d : Nat) (b : List UInt8) (w : World) (hr : Rd w T 1 A n (bs a)) (hp : Rd w T 1 B m (bs b)) (h : (n : Int) + m ≤ 20000) :
    Calls Try.prog 3 #[.slice A n c, .slice B m d] w (YesPost w) := by
  have hn : n ≤ 20000 := by omega
  have hm : m ≤ 20000 := by omega
  have hh : ¬ (20000 : Int) < (n : Int) + m := by omega
  go_enter Try.func3, Try.ntmps3
  go_wp2_with (first | (at_builtin; refine wpList_append_any w (s := .tmp 13) (x := .tmp 14) Try.underlying22 u8_elem rfl (by omega) rfl rfl rfl (own_nil w w.heap.size 5 1 0 rfl) rfl hr (bs_one _) (by omega) (Nat.le_refl _) (Nat.zero_add n) (List.nil_append _) ?_; go_must (intro A1 c1 w1 hown1 hg1 hat1; have hb1 : Below w.heap.size w w1 := (Below.refl _ _).grown hg1 (Nat.le_refl _) (by simp); have z1 := hb1.size)) | (at_builtin; refine wpList_append_any _ (s := .tmp 15) (x := .tmp 16) Try.underlying22 u8_elem rfl (by omega) rfl rfl rfl hown1 rfl (hp.below hb1) (bs_one _) (by omega) z1 rfl (ys := bs (a ++ b)) (bs_append _ _).symm ?_; go_must (intro A2 c2 w2 hown2 hg2 hat2)))
  have hb2 : Below w.heap.size w w2 := hb1.grown hg2 z1 (fun g hg => (own_lt hown1 g hg).1)
  have ra := hr.below hb2
  have rb := hp.below hb2
  have rc := (Rd.of_own hown2).any
  have z2 := hb2.size
  clear hown1 hown2 hg1 hg2 hat1 hat2 hb1
  refine (sum_any A n c a w2 ra (by omega)).mono ?_
  rintro e w' ⟨rfl, rfl⟩
  go_wp2_with fail
  refine (refSum_any A n c a _ ra (by omega)).mono ?_
  rintro e w3 ⟨rfl, hb3⟩
  replace ra := ra.below hb3
  replace rb := rb.below hb3
  replace rc := rc.below hb3
  replace hb2 := hb2.trans (hb3.mono z2)
  clear hb3 z2
  go_wp2_with fail
  refine (sum_any A n c a w3 ra (by omega)).mono ?_
  rintro e w4 ⟨rfl, rfl⟩
  go_wp2_with fail
  refine (more_any (sumOf a) B m d b w4 (sumOf_lt a) rb (by omega)).mono ?_
  rintro e w5 ⟨rfl, rfl⟩
  have e1 : not32 (crc (not32 (sumOf a)) b) = sumOf (a ++ b) := by
    unfold sumOf
    rw [not32_not32 _ (crc_lt a _ (by omega)), crc_append]
  rw [e1]
  clear e1
  go_wp2_with fail
  refine (refSum_any A2 (n + m) c2 (a ++ b) _ rc (by omega)).mono ?_
  rintro e w6 ⟨rfl, hb6⟩
  replace rc := rc.below hb6
  replace hb2 := hb2.trans (hb6.mono hb2.size)
  clear hb6
  go_wp2_with fail
  refine (sum_any A2 (n + m) c2 (a ++ b) w6 rc (by omega)).mono ?_
  rintro e w7 ⟨rfl, rfl⟩
  go_wp2_with fail
  refine (refSum_any A2 (n + m) c2 (a ++ b) _ rc (by omega)).mono ?_
  rintro e w8 ⟨rfl, hb8⟩
  replace hb2 := hb2.trans (hb8.mono hb2.size)
  clear hb8
  go_wp2_with fail
  refine (sure_any _).mono ?_
  rintro e w9 ⟨rfl, hb9⟩
  go_wp2_with fail
  go_ret
  exact ⟨rfl, hb2.trans (hb9.mono hb2.size)⟩
end Go.Proofs.Ytbcdanegcknamaa
