/- The law's sure. -/
import Derived.Test.YtefhkhocbcnbcaaDoorClD
import Derived.Lib.SlBytesConst
namespace Go.Proofs.YtefhkhocbcnbcaaDoor
open Go.RowKit
set_option maxRecDepth 100000
set_option linter.unusedVariables false
set_option linter.unusedSimpArgs false
theorem convB (w : World) (C : Array Value) (n c : Nat) : (convert 28 28 (.slice (some ⟨w.heap.size, 0, none⟩) n c)).run Tryd.prog (w.alloc (.cells C 5)) = .ok (.slice (some ⟨w.heap.size, 0, none⟩) n c) (w.alloc (.cells C 5 (C.size, C.size + 1))) := Lib.run_convert_bytes_const w 28 5 C n c Tryd.underlying28 Tryd.underlying5
attribute [local go_sem] convB
/-- The disk of nine noughts behind the write of 'ab' at three. -/
def Dsure : Dk := { safe := List.replicate 9 0, now := splice (List.replicate 9 0) 3 [97, 98], q := [(3, [97, 98])], armed := 0, off := false }
theorem sure_write : (Dk.make 9).write 3 [97, 98] = (Dsure, 0) := rfl
theorem sure_a : (Dsure.started []).read 3 2 = ([0, 0], 0) := rfl
theorem sure_b : (Dsure.started [0, 1]).read 3 2 = ([97, 0], 0) := rfl
theorem Kept.dx {U L : Nat → Prop} {W W' : World} {g z : Nat} {D : Dk} (h : Kept U W W') (hd : DX W L g D z) (hU : ∀ b, L b → ¬ U b) : DX W' L g D z := hd.keep (fun b hb => h.block b (hd.lt b hb) (hU b hb)) h.size
set_option maxHeartbeats 3200000 in
theorem sure_any (w : World) : Calls Tryd.prog 12 #[] w (YesPost w) := by
  have hnew : Calls Tryd.prog 6 #[.int .i64 9] w (NewPost w 9) := new_any 9 (by omega) (by omega) w
  go_enter Tryd.func12, Tryd.ntmps12
  go_wp2_with fail
  refine hnew.mono ?_
  rintro e w1 ⟨L, g, rfl, hd, hL, hb1⟩
  have hdl := hd.lt
  have hwr := fun (W : World) (h : Below w1.heap.size w1 W) (r : Rd W (w1.heap.size ≤ ·) 1 (some ⟨w1.heap.size, 0, none⟩) 2 (bs [97, 98])) => write_any 3 (some ⟨w1.heap.size, 0, none⟩) 2 2 [97, 98] W (hd.below h) (r.mono fun k hk hl => by have := hdl k hl; omega) (by unfold I64; omega) (by omega) (by decide)
  unfold WritePost at hwr
  rw [sure_write] at hwr
  have Hwr := Lib.hid hwr
  clear hwr hnew
  go_wp2_with fail
  refine (Hwr.out _ ((Below.refl _ _).alloc (Nat.le_refl _) _) (Rd.lit rfl)).mono ?_
  rintro e w2 ⟨rfl, L2, hd2, hl2, hk2⟩
  rw [errD_nil]
  have hL2 : ∀ b, L2 b → w.heap.size ≤ b := fun b hb => by
    rcases hl2 b hb with h | h
    · exact hL b h
    · have := hb1.size
      simp at h
      omega
  have hb2 : Below w.heap.size w w2 := (hb1.alloc hb1.size _).trans (hk2.below hL (by have := hb1.size; simp; omega))
  clear hd hL hb1 hdl Hwr hl2 hk2
  go_wp2_with fail
  refine (cloneD_any w2 hd2 (by decide)).mono ?_
  rintro e w3 ⟨Lc, c, rfl, hc, hLc, hb3⟩
  have hd3 := hd2.below hb3
  have hd2l := hd2.lt
  have hbz3 := hb2.trans (hb3.mono hb2.size)
  have dis3 : ∀ b, L2 b → ¬ Lc b := fun b h1 h2 => by have := hd2l b h1; have := hLc b h2; omega
  have hLcw : ∀ b, Lc b → w.heap.size ≤ b := fun b hb => Nat.le_trans hb2.size (hLc b hb)
  clear hb3 hd2
  go_wp2_with fail
  refine (start_any none 0 0 [] w3 hd3 Rd.none_ (fun _ h => by cases h) (by decide)).mono ?_
  rintro e w4 ⟨rfl, L4, hd4, hl4, hk4⟩
  have hc4 := hk4.dx hc fun b h1 h2 => dis3 b h2 h1
  have hbz4 := hbz3.trans (hk4.below hL2 hbz3.size)
  have hc3l := hc.lt
  have dis4 : ∀ b, Lc b → ¬ L4 b := fun b h1 h2 => by
    rcases hl4 b h2 with h | h
    · exact dis3 b h h1
    · have := hc3l b h1
      omega
  have hd4l := hd4.lt
  clear hk4 hbz3 hd3 hc hc3l
  go_wp2_with fail
  have hc5 := hc4.below ((Below.refl _ _).alloc (Nat.le_refl _) (.cells #[.int .i64 0, .int .i64 1] 3))
  have hd5 := hd4.below ((Below.refl _ _).alloc (Nat.le_refl _) (.cells #[.int .i64 0, .int .i64 1] 3))
  have hbz5 := hbz4.alloc hbz4.size (.cells #[.int .i64 0, .int .i64 1] 3)
  have r5 : Rd (w4.alloc (.cells #[.int .i64 0, .int .i64 1] 3)) T 1 (some ⟨w4.heap.size, 0, none⟩) 2 (ii [0, 1]) := (Rd.lit rfl).any
  refine (start_any _ 2 2 [0, 1] _ hc5 r5 (by intro x hx; unfold I64; simp at hx; omega) (by decide)).mono ?_
  rintro e w6 ⟨rfl, L6, hc6, hl6, hk6⟩
  have hd6 := hk6.dx hd5 fun b h1 h2 => dis4 b h2 h1
  have hbz6 := hbz5.trans (hk6.below hLcw (by have := hbz4.size; simp; omega))
  clear hk6 hbz5 hbz4 hd5 hd4 hc5 hc4 r5 hl6 hl4
  have hra := read_any 3 2 w6 hd6 (by unfold I64; omega) (by unfold I64; omega)
  have hrb := fun w7 (h : Below w6.heap.size w6 w7) => read_any 3 2 w7 (hc6.below h) (by unfold I64; omega) (by unfold I64; omega)
  rw [sure_a] at hra
  rw [sure_b] at hrb
  have Hrb := Lib.hid hrb
  clear hrb hd6 hc6
  go_wp2_with fail
  refine hra.mono ?_
  rintro e w7 ⟨A7, c7, rfl, r7, hb7⟩
  rw [errD_nil]
  have hb67 := hb7
  have hbz7 := hbz6.trans (hb7.mono hbz6.size)
  clear hb7 hra
  go_wp2_with fail
  refine (Hrb.out w7 hb67).mono ?_
  rintro e w8 ⟨A8, c8, rfl, r8, hb8⟩
  rw [errD_nil]
  have hbz8 := hbz7.trans (hb8.mono hbz7.size)
  have q7 := conv_bytes (P := Tryd.prog) (c := c7) 28 9 5 Tryd.underlying28 Tryd.underlying5 Tryd.underlying9 (r7.below hb8)
  have q8 := conv_bytes (P := Tryd.prog) (c := c8) 28 9 5 Tryd.underlying28 Tryd.underlying5 Tryd.underlying9 r8
  have Hbz8 := Lib.hid hbz8
  clear hb67 r7 r8 hbz7 hbz6 Hrb hb8 hbz8
  simp only [List.length_cons, List.length_nil, Nat.zero_add, Nat.reduceAdd] at q7 q8 ⊢
  go_wp2_with fail
  go_ret
  exact ⟨rfl, Hbz8.out⟩
end Go.Proofs.YtefhkhocbcnbcaaDoor
