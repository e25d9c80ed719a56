/- Walks of seal.four, seal.Seal, seal.Open. -/
import Derived.Test.YtbcdanegcknamaaDoorSum
import Derived.Test.YtbcdanegcknamaaDoorClone
namespace Go.Proofs.YtbcdanegcknamaaDoor
open Go.RowKit
set_option linter.unusedVariables false
set_option linter.unusedSimpArgs false
theorem u8_of (s : Nat) : ((s : Int) % 256) = ((UInt8.ofNat s).toNat : Int) := by
  simp [UInt8.toNat_ofNat']
def FourPost (W : World) (l : List UInt8) (e : Ending) (w' : World) : Prop := ∃ a b c d, l = [a, b, c, d] ∧ e = .returned (.agg #[.int .u8 (a.toNat : Int), .int .u8 (b.toNat : Int), .int .u8 (c.toNat : Int), .int .u8 (d.toNat : Int)]) ∧ Below W.heap.size W w'
theorem four_any (s : Nat) (w : World) (hs : s < 4294967296) :
    Calls Tryd.prog 13 #[.int .u32 s] w (FourPost w (tailOf s)) := by
  have e0 := u8_of s
  have e1 : ((s : Int) / 256 % 256) = ((UInt8.ofNat (s / 256)).toNat : Int) := u8_of (s / 256)
  have e2 : ((s : Int) / 65536 % 256) = ((UInt8.ofNat (s / 65536)).toNat : Int) := u8_of (s / 65536)
  have e3 : ((s : Int) / 16777216) = ((UInt8.ofNat (s / 16777216)).toNat : Int) := by have := u8_of (s / 16777216); omega
  have E0 := Lib.hid e0
  have E1 := Lib.hid e1
  have E2 := Lib.hid e2
  have E3 := Lib.hid e3
  clear e0 e1 e2 e3
  go_enter Tryd.func13, Tryd.ntmps13
  go_wp2_with fail
  refine bodyPost_ret (by simp [results, Tryd.results13, go_sem]; rfl) rfl ?_
  refine ⟨_, _, _, _, rfl, ?_, (Below.refl _ _).alloc (Nat.le_refl _) _⟩
  rw [← E0.out, ← E1.out, ← E2.out, ← E3.out]

/-- What Seal answers: the bytes, or the error's number. -/
def sealF (kind : UInt8) (b : List UInt8) : List UInt8 := (kind :: b) ++ tailOf (sumOf (kind :: b))
def SealPost (W : World) (l : List UInt8) (er : Value) (e : Ending) (w' : World) : Prop :=
  ∃ A n c, e = .returned (.tuple #[.slice A n c, er]) ∧ w'.ownsRow W.heap.size 5 1 (.slice A n c) n (bs l) ∧ Below W.heap.size W w'
theorem seal_bad (kind : Int) (A : Option Addr) (n c : Nat) (w : World) (k : Int) (h : (kind == 0) = true ∧ k = 1 ∨ (kind == 0) = false ∧ 1048576 < (n : Int) ∧ k = 2) :
    Calls Tryd.prog 7 #[.int .u8 kind, .slice A n c] w (SealPost w [] (.iface 42 (.int .i64 k))) := by
  rcases h with ⟨h, rfl⟩ | ⟨h, h', rfl⟩
  all_goals
    go_enter Tryd.func7, Tryd.ntmps7
    go_wp2_with fail
    go_ret2
    exact ⟨none, 0, 0, rfl, own_nil _ _ _ _ _ rfl, Below.refl _ _⟩
set_option maxHeartbeats 800000 in
theorem seal_ok (kind : UInt8) (A : Option Addr) (n c : Nat) (b : List UInt8) (w : World) {ok : Nat → Prop} (hr : Rd w ok 1 A n (bs b)) (hn : n ≤ 1048576) (hk : ((kind.toNat : Int) == 0) = false) :
    Calls Tryd.prog 7 #[.int .u8 kind.toNat, .slice A n c] w (SealPost w (sealF kind b) .nilIface) := by
  have hn' : (n : Int) ≤ 1048576 := by omega
  have hkind : ∀ W : World, (W.alloc (.cells #[.int .u8 (kind.toNat : Int)] 5)).ownsRow W.heap.size 5 1 (.slice (some ⟨W.heap.size, 0, none⟩) 1 1) 1 (bs [kind]) := fun W => World.ownsRow_lit W _ 1 (Nat.le_refl _) (by simp [maxLen]) rfl
  go_enter Tryd.func7, Tryd.ntmps7
  go_wp2_with (at_builtin; go_must (refine wpList_append_any _ Tryd.underlying22 u8_elem rfl (by omega) rfl rfl rfl (hkind w) rfl (hr.alloc _) (bs_one _) (by omega) (by simp) rfl (ys := bs (kind :: b)) rfl ?_); intro A1 c1 w1 hown1 hg1 hat1)
  refine (sum_any A1 (1 + n) c1 (kind :: b) w1 (Rd.of_own hown1) (by omega)).mono ?_
  rintro e w2 ⟨rfl, rfl⟩
  have hb1 : Below w.heap.size w w2 := ((Below.refl _ _).alloc (Nat.le_refl _) _).grown hg1 (by simp) (by simp)
  have hsl := sumOf_lt (kind :: b)
  obtain ⟨s, hs⟩ : ∃ s, s = sumOf (kind :: b) := ⟨_, rfl⟩
  rw [← hs] at hsl ⊢
  have Hs := Lib.hid hs
  clear hs
  go_wp2_with fail
  refine (four_any s w2 hsl).mono ?_
  rintro e w3 ⟨d0, d1, d2, d3, hd, rfl, hb3⟩
  have Hd := Lib.hid hd
  clear hd
  have hown3 := own_below hown1 hb3
  replace hb1 := hb1.trans (hb3.mono hb1.size)
  have z1 := hb1.size
  have r4 : Rd (w3.alloc (.cells #[.int .u8 (d0.toNat : Int), .int .u8 (d1.toNat : Int), .int .u8 (d2.toNat : Int), .int .u8 (d3.toNat : Int)] 43)) (w3.heap.size ≤ ·) 1 (some ⟨w3.heap.size, 0, none⟩) 4 (bs [d0, d1, d2, d3]) := Rd.lit rfl
  go_wp2_with (at_builtin; go_must (refine wpList_append_any _ Tryd.underlying22 u8_elem rfl (by omega) rfl rfl rfl (hown3.alloc _) rfl r4 (bs_one _) (by omega) (by simp; omega) rfl (ys := bs ((kind :: b) ++ [d0, d1, d2, d3])) (bs_append _ _).symm ?_); intro A4 c4 w4 hown4 hg4 hat4)
  go_ret2
  refine ⟨A4, _, c4, rfl, ?_, (hb1.alloc z1 _).grown hg4 (by simp; omega) (fun g hg => (own_lt hown3 g hg).1)⟩
  unfold sealF
  rw [← Hs.out, Hd.out]
  exact hown4
end Go.Proofs.YtbcdanegcknamaaDoor
