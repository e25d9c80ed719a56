/- Walk of tollbarlaw12.sure: it says yes. -/
import Derived.Test.YtcdneioaifmilaaDoorPutAny
import Derived.Test.YtcdneioaifmilaaDoorCut
import Derived.Test.YtcdneioaifmilaaDoorBox
namespace Go.Proofs.YtcdneioaifmilaaDoor
open Go.RowKit
set_option linter.unusedVariables false
set_option linter.unusedSimpArgs false
theorem convB (w : World) (C : Array Value) (n c : Nat) : (convert 22 22 (.slice (some ⟨w.heap.size, 0, none⟩) n c)).run Tryd.prog (w.alloc (.cells C 5)) = .ok (.slice (some ⟨w.heap.size, 0, none⟩) n c) (w.alloc (.cells C 5 (C.size, C.size + 1))) := Lib.run_convert_bytes_const w 22 5 C n c Tryd.underlying22 Tryd.underlying5
attribute [local go_sem] convB
theorem cv {W : World} {ok : Nat → Prop} {A : Option Addr} {n : Nat} {l : List UInt8} (h : Rd W ok 1 A n (bs l)) (c : Nat) : (convert 22 9 (.slice A n c)).run Tryd.prog W = .ok (.string ⟨l.toArray⟩) W :=
  conv_bytes 22 9 5 Tryd.underlying22 Tryd.underlying5 Tryd.underlying9 h
theorem sure_any (w : World) : Calls Tryd.prog 4 #[] w (YesPost w) := by
  go_enter Tryd.func4, Tryd.ntmps4
  go_wp2_with fail
  have r0 : Rd (w.alloc (.cells #[.int .u8 97, .int .u8 98, .int .u8 99, .int .u8 100, .int .u8 101] 5 (5, 6))) (w.heap.size ≤ ·) 1 (some ⟨w.heap.size, 0, none⟩) 5 (bs [97, 98, 99, 100, 101]) := Rd.lit rfl
  refine (cut_at _ 5 5 [97, 98, 99, 100, 101] 2 2 2 2 _ r0 (by omega) (by omega) (by omega) (by omega) (.inr (by omega)) rfl rfl).mono ?_
  rintro e w1 ⟨A1, n1, c1, rfl, r1, hc1, hb1⟩
  go_wp2_with fail
  have r2 : Rd (w1.alloc (.cells #[.int .u8 97, .int .u8 98] 5 (2, 3))) (w1.heap.size ≤ ·) 1 (some ⟨w1.heap.size, 0, none⟩) 2 (bs [97, 98]) := Rd.lit rfl
  refine (put_any 0 1 0 none 0 0 [] _ 2 2 [97, 98] false _ Rd.none_ r2.any (by omega) (by omega)).mono ?_
  rintro e w2 ⟨A2, c2, B2, d2, n2, m2, rfl, r3, r4, hb2⟩
  have e1 : putR 0 [] 1 0 [97, 98] false = (1, [97, 98], [], 2, false) := by decide
  rw [e1] at r3 r4 ⊢
  have r5 := (r1.alloc (.cells #[.int .u8 97, .int .u8 98] 5 (2, 3))).below hb2
  have s1 : ∀ o : Obj, (convert 22 9 (.slice A1 n1 c1)).run Tryd.prog (w2.alloc o) = .ok (.string ⟨#[99, 100]⟩) (w2.alloc o) := fun o => conv_bytes (P := Tryd.prog) (c := c1) 22 9 5 Tryd.underlying22 Tryd.underlying5 Tryd.underlying9 (r5.alloc o)
  have s2 : ∀ o : Obj, (convert 22 9 (.slice A2 n2 c2)).run Tryd.prog (w2.alloc o) = .ok (.string ⟨#[97, 98]⟩) (w2.alloc o) := fun o => conv_bytes (P := Tryd.prog) (c := c2) 22 9 5 Tryd.underlying22 Tryd.underlying5 Tryd.underlying9 (r3.alloc o)
  go_wp2_with fail
  go_ret
  have z1 := hb1.size
  have z2 := hb2.size
  simp only [World.size_alloc] at z1 z2
  have b1 : Below w.heap.size w w1 := ((Below.refl _ _).alloc (Nat.le_refl _) _).trans (hb1.mono (by simp))
  have b2 : Below w.heap.size w w2 := (b1.alloc (by omega) _).trans (hb2.mono (by simp; omega))
  exact ⟨rfl, b2.alloc (by omega) _⟩
end Go.Proofs.YtcdneioaifmilaaDoor
