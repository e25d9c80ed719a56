/- Walk of the law package's own: numbers of their own. -/
import Derived.Test.YtijgkejknijplaaDoorFlat
import Derived.Test.YtijgkejknijplaaDoorWide
import Derived.Test.YtijgkejknijplaaDoorRows
import Derived.Test.YtijgkejknijplaaDoorRow
import Derived.Test.YtijgkejknijplaaDoorBox
namespace Go.Proofs.YtijgkejknijplaaDoor
open Go.RowKit
set_option maxRecDepth 100000
set_option linter.unusedVariables false
set_option linter.unusedSimpArgs false
theorem int_elem : Elem Tryd.prog 3 (.int .i64 0) 1 8 := by unfold Elem; kernel_rfl
theorem ii_one (l : List Int) : ∀ u ∈ ii l, u.oneCell' = true := by
  intro u hu
  simp only [ii, List.mem_map] at hu
  obtain ⟨c, _, rfl⟩ := hu
  rfl
def OwnPost (W : World) (n : Nat) (l : List Int) (e : Ending) (w' : World) : Prop := ∃ A' c', e = .returned (.slice A' n c') ∧ Rd w' (W.heap.size ≤ ·) 1 A' n (ii l) ∧ Below W.heap.size W w'
theorem own_any (A : Option Addr) (n c : Nat) (l : List Int) (w : World) {ok : Nat → Prop} (hr : Rd w ok 1 A n (ii l)) (hn : n * 8 ≤ 140737488351232) :
    Calls Tryd.prog 25 #[.slice A n c] w (OwnPost w n l) := by
  have Hr := Lib.hid hr
  clear hr
  go_enter Tryd.func25, Tryd.ntmps25
  have hm8 : n ≤ maxLen := by unfold maxLen; omega
  go_wp2_with (at_builtin; refine wpList_append_wide (news := ii l) _ Tryd.underlying53 int_elem rfl (by omega) rfl rfl rfl (World.ownsRow_nil _ w.heap.size 3 1) rfl Hr.out (ii_one l) (by omega) (by omega) (Nat.le_refl _) (Nat.zero_add _) (List.nil_append _) ?_; intro A1 c1 w1 hown1 hg1 hat1)
  go_ret
  exact ⟨A1, c1, rfl, Rd.of_own hown1, (Below.refl _ _).grown hg1 (Nat.le_refl _) (by simp)⟩
end Go.Proofs.YtijgkejknijplaaDoor
