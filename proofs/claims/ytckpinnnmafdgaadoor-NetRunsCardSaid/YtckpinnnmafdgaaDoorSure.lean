/- Walks: net's Len, tollbarlaw18.sure. -/
import Derived.Test.YtckpinnnmafdgaaDoorPut
namespace Go.Proofs.YtckpinnnmafdgaaDoor
open Go.RowKit
set_option linter.unusedVariables false
set_option linter.unusedSimpArgs false
set_option maxRecDepth 100000
theorem len_any (g gm : Nat) (lim last : Int) (cnt : Nat) (f : Int → Int → Int) (A : Option Addr) (nl cl : Nat) (xs : List Value) (w : World) (hns : NS w g gm lim last cnt f A nl cl xs) : Calls Tryd.prog 12 #[.pointer (some ⟨g, 0, none⟩)] w fun e w' => e = .returned (.int .i64 nl) ∧ w = w' := by
  have k2 : w.cell? ⟨g, 2, none⟩ = some (.slice A nl cl) := hns.bx.c 2
  go_enter Tryd.func12, Tryd.ntmps12
  go_wp2_with fail
  go_ret
  exact ⟨rfl, rfl⟩
theorem convB (w : World) (C : Array Value) (n c : Nat) : (convert 30 30 (.slice (some ⟨w.heap.size, 0, none⟩) n c)).run Tryd.prog (w.alloc (.cells C 5)) = .ok (.slice (some ⟨w.heap.size, 0, none⟩) n c) (w.alloc (.cells C 5 (C.size, C.size + 1))) := Lib.run_convert_bytes_const w 30 5 C n c Tryd.underlying30 Tryd.underlying5
attribute [local go_sem] convB
theorem sure_any (w : World) : Calls Tryd.prog 14 #[] w (YesPost w) := by
  go_enter Tryd.func14, Tryd.ntmps14
  go_wp2_with fail
  refine (new_any 9 w (by omega) (by omega)).mono ?_
  rintro e w1 ⟨rfl, hn1, hb1⟩
  generalize w.heap.size + 1 = g at hn1
  have hgm := hn1.mp.lt
  have z1 := hn1.bx.lt
  go_wp2_with fail
  have r1 : Rd (w1.alloc (.cells #[.int .u8 120] 5 (1, 2))) (w1.heap.size ≤ ·) 1 (some ⟨w1.heap.size, 0, none⟩) 1 (bs [120]) := Rd.lit rfl
  refine (put_yes g _ 9 0 0 _ none 0 0 [] 1 2 _ 1 1 [120] _ (hn1.alloc _) (by omega) (by omega) (by omega) (by omega) (by omega) rfl r1.any (by omega) (by omega) (by omega) (by omega)).mono ?_
  rintro e w2 ⟨rfl, ⟨A2, c2, x2, hn2⟩, hb2⟩
  have hbw := (hb1.alloc hb1.size _).trans (hb2.mono (Nat.le_refl _))
  clear hb2 r1
  go_wp2_with fail
  refine (cut_any g _ 9 _ 0 _ A2 _ c2 x2 2 1 true w2 hn2 (by omega) (by omega) (by omega) (by omega) (by omega)).mono ?_
  rintro e w3 ⟨rfl, hn3, hb3⟩
  replace hbw := hbw.trans (hb3.mono (Nat.le_refl _))
  clear hb3 hn2
  go_wp2_with fail
  have hgl := hn3.mp.lt
  refine (put_no g _ 9 _ _ _ A2 _ c2 x2 1 2 _ 1 1 _ (hn3.alloc _) (by omega) (by omega) (by omega) (by omega) (by omega) (by decide)).mono ?_
  rintro e w4 ⟨rfl, hn4, hb4⟩
  replace hbw := (hbw.alloc (by omega) _).trans (hb4.mono (Nat.le_refl _))
  clear hb4 hn3
  go_wp2_with fail
  refine (len_any g _ 9 _ _ _ A2 _ c2 x2 w4 hn4).mono ?_
  rintro e w5 ⟨rfl, rfl⟩
  go_wp2_with fail
  go_ret
  exact ⟨rfl, hbw⟩
end Go.Proofs.YtckpinnnmafdgaaDoor
