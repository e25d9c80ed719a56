/- Walk of tollbarlaw02.sure: it says yes. -/
import Derived.Test.YtbcdanegcknamaaDoorOpenS
namespace Go.Proofs.YtbcdanegcknamaaDoor
open Go.RowKit
set_option linter.unusedVariables false
set_option linter.unusedSimpArgs false
theorem tailOf_length (s : Nat) : (tailOf s).length = 4 := rfl
theorem sealF_length (k : UInt8) (b : List UInt8) : (sealF k b).length = b.length + 5 := by simp [sealF, tailOf]
theorem sealF_take (k : UInt8) (b : List UInt8) : (sealF k b).take (b.length + 1) = k :: b := by
  unfold sealF
  exact List.take_left' (by simp)
theorem sealF_drop (k : UInt8) (b : List UInt8) : (sealF k b).drop (b.length + 1) = tailOf (sumOf (k :: b)) := by
  unfold sealF
  exact List.drop_left' (by simp)
theorem cv {W : World} {ok : Nat → Prop} {A : Option Addr} {n : Nat} {l : List UInt8} (h : Rd W ok 1 A n (bs l)) (c : Nat) : (convert 22 9 (.slice A n c)).run Tryd.prog W = .ok (.string ⟨l.toArray⟩) W :=
  conv_bytes 22 9 5 Tryd.underlying22 Tryd.underlying5 Tryd.underlying9 h
theorem convB (w : World) (C : Array Value) (n c : Nat) : (convert 22 22 (.slice (some ⟨w.heap.size, 0, none⟩) n c)).run Tryd.prog (w.alloc (.cells C 5)) = .ok (.slice (some ⟨w.heap.size, 0, none⟩) n c) (w.alloc (.cells C 5 (C.size, C.size + 1))) := Lib.run_convert_bytes_const w 22 5 C n c Tryd.underlying22 Tryd.underlying5
attribute [local go_sem] convB
theorem seal_at (kI : Int) (kind : UInt8) (hkI : kI = kind.toNat) (A : Option Addr) (n c : Nat) (b : List UInt8) (w : World) {ok : Nat → Prop} (hr : Rd w ok 1 A n (bs b)) (hn : n ≤ 1048576) (hk : ((kind.toNat : Int) == 0) = false) :
    Calls Tryd.prog 7 #[.int .u8 kI, .slice A n c] w (SealPost w (sealF kind b) .nilIface) := by
  subst hkI
  exact seal_ok kind A n c b w hr hn hk
/-- What Seal made, Open opens. -/
theorem open_sealed (kind : UInt8) (A : Option Addr) (n c : Nat) (b : List UInt8) (w : World) {ok : Nat → Prop} (hr : Rd w ok 1 A n (bs (sealF kind b))) (hc : n ≤ c) (hb : b.length ≤ 1000000) (hk : ((kind.toNat : Int) == 0) = false) :
    Calls Tryd.prog 10 #[.slice A n c] w (OpenPost w kind b .nilIface) := by
  have hl := hr.blen
  rw [sealF_length] at hl
  obtain ⟨bb, o, rfl, _, _, _⟩ := hr.plain (by omega) (by omega)
  obtain rfl : n = (b.length + 1) + 4 := by omega
  refine open_long bb o (b.length + 1) c (sealF kind b) w hr (by omega) hc (by omega) .nilIface kind b (.inr (.inr ⟨?_, ?_, rfl, ?_, rfl⟩))
  · rw [sealF_take, sealF_drop]
  · exact hk
  · rw [sealF_take]; rfl
set_option maxRecDepth 100000 in
theorem sure_any (w : World) : Calls Tryd.prog 6 #[] w (YesPost w) := by
  go_enter Tryd.func6, Tryd.ntmps6
  go_wp2_with fail
  have r0 : Rd (w.alloc (.cells #[.int .u8 97, .int .u8 98] 5 (2, 3))) (w.heap.size ≤ ·) 1 (some ⟨w.heap.size, 0, none⟩) 2 (bs [97, 98]) := Rd.lit rfl
  refine (seal_at 7 7 rfl _ 2 2 [97, 98] _ r0 (by omega) (by decide)).mono ?_
  rintro e w1 ⟨A1, n1, c1, rfl, hown1, hb1⟩
  have hk1 := own_le hown1
  have z1 := hb1.size
  simp only [World.size_alloc] at z1
  have hbw : Below w.heap.size w w1 := ((Below.refl _ _).alloc (Nat.le_refl _) _).trans (hb1.mono (by simp))
  have r1 := Rd.of_own hown1
  clear hb1 hown1
  go_wp2_with fail
  refine (open_sealed 7 A1 n1 c1 [97, 98] w1 r1 (by omega) (by decide) (by decide)).mono ?_
  rintro e w2 ⟨A2, n2, c2, rfl, r2, hb2⟩
  replace hbw := hbw.trans (hb2.mono (by omega))
  have z2 := hbw.size
  clear hb2 r1
  have s2 := cv r2 c2
  go_wp2_with fail
  have r3 : Rd (w2.alloc (.cells #[.int .u8 49, .int .u8 50, .int .u8 51, .int .u8 52, .int .u8 53, .int .u8 54, .int .u8 55, .int .u8 56, .int .u8 57] 5 (9, 10))) (w2.heap.size ≤ ·) 1 (some ⟨w2.heap.size, 0, none⟩) 9 (bs [49, 50, 51, 52, 53, 54, 55, 56, 57]) := Rd.lit rfl
  refine (sum_any _ 9 9 [49, 50, 51, 52, 53, 54, 55, 56, 57] _ r3 (by omega)).mono ?_
  rintro e w3 ⟨rfl, rfl⟩
  have e9 : sumOf [49, 50, 51, 52, 53, 54, 55, 56, 57] = 3808858755 := by decide +kernel
  rw [e9]
  go_wp2_with fail
  go_ret
  exact ⟨rfl, hbw.alloc z2 _⟩
end Go.Proofs.YtbcdanegcknamaaDoor
