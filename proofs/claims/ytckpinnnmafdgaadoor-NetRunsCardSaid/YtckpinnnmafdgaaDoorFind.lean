/- Walk of net's find. -/
import Derived.Test.YtckpinnnmafdgaaDoorAt
namespace Go.Proofs.YtckpinnnmafdgaaDoor
open Go.RowKit
set_option linter.unusedVariables false
set_option linter.unusedSimpArgs false
set_option maxRecDepth 100000
def errK (k : Int) : Value := .iface 61 (.int .i64 k)
def FindPost (W : World) (z : Int) (l : List Ic) (e : Ending) (w' : World) : Prop :=
  ((∃ (i : Nat) (x : Ic), e = .returned (.tuple #[.int .i64 i, .nilIface]) ∧ l[i]? = some x ∧ byId z x = true ∧ ∀ y ∈ l.take i, byId z y = false) ∨ (e = .returned (.tuple #[.int .i64 0, errK 8]) ∧ ∀ y ∈ l, byId z y = false)) ∧ Below W.heap.size W w'
theorem find_any (g gm : Nat) (lim last : Int) (cnt : Nat) (f : Int → Int → Int) (A : Option Addr) (nl cl : Nat) (l : List Ic) (z : Int) (w : World) (hns : NS w g gm lim last cnt f A nl cl (flat icell l)) (hn : nl ≤ 1000000) :
    Calls Tryd.prog 24 #[.pointer (some ⟨g, 0, none⟩), .int .i64 z] w (FindPost w z l) := by
  have h := at_any g gm lim last cnt f A nl cl l z w hns hn
  have H := Lib.hid h
  clear h hns
  go_enter Tryd.func24, Tryd.ntmps24
  go_wp2_with fail
  refine H.out.mono ?_
  rintro e w2 ⟨k, rfl, hat, hb⟩
  rcases hat with ⟨i, x, rfl, h1, h2, h3⟩ | ⟨rfl, h1⟩
  · have H1 := Lib.hid (And.intro h1 (And.intro h2 h3))
    clear h1 h2 h3
    have hi : ¬ ((i : Int) < 0) := by omega
    go_wp2_with fail
    go_ret2
    exact ⟨.inl ⟨i, x, rfl, H1.out.1, H1.out.2.1, H1.out.2.2⟩, hb⟩
  · have H1 := Lib.hid h1
    clear h1
    go_wp2_with fail
    go_ret2
    exact ⟨.inr ⟨rfl, H1.out⟩, hb⟩
end Go.Proofs.YtckpinnnmafdgaaDoor
