/- Walks of tollbarref02.Tail and tollbarref02.Seal. -/
import Derived.Test.YtbcdanegcknamaaDoorSeal
import Derived.Test.YtbcdanegcknamaaDoorRefSum
namespace Go.Proofs.YtbcdanegcknamaaDoor
open Go.RowKit
set_option linter.unusedVariables false
set_option linter.unusedSimpArgs false
def TailPost (W : World) (l : List UInt8) (e : Ending) (w' : World) : Prop := ∃ A c, e = .returned (.slice A 4 c) ∧ Rd w' (W.heap.size ≤ ·) 1 A 4 (bs l) ∧ Below W.heap.size W w'
theorem tail_any (s : Nat) (w : World) (hs : s < 4294967296) :
    Calls Tryd.prog 14 #[.int .u32 s] w (TailPost w (tailOf s)) := by
  have e0 := u8_of s
  have e1 : ((s : Int) / 256 % 256) = ((UInt8.ofNat (s / 256)).toNat : Int) := u8_of (s / 256)
  have e2 : ((s : Int) / 65536 % 256) = ((UInt8.ofNat (s / 65536)).toNat : Int) := u8_of (s / 65536)
  have e3 : ((s : Int) / 16777216) = ((UInt8.ofNat (s / 16777216)).toNat : Int) := by have := u8_of (s / 16777216); omega
  have hc : ∀ W : World, Rd (W.alloc (.cells #[.int .u8 ((s : Int) % 256), .int .u8 ((s : Int) / 256 % 256), .int .u8 ((s : Int) / 65536 % 256), .int .u8 ((s : Int) / 16777216)] 5)) (W.heap.size ≤ ·) 1 (some ⟨W.heap.size, 0, none⟩) 4 (bs (tailOf s)) := by
    intro W
    rw [e0, e1, e2, e3]
    exact Rd.lit rfl
  have Hc := Lib.hid hc
  clear hc e0 e1 e2 e3
  go_enter Tryd.func14, Tryd.ntmps14
  go_wp2_with fail
  go_ret
  exact ⟨_, _, rfl, Hc.out w, (Below.refl _ _).alloc (Nat.le_refl _) _⟩
theorem refSeal_bad (kind : Int) (A : Option Addr) (n c : Nat) (w : World) (k : Int) (h : (kind == 0) = true ∧ k = 1 ∨ (kind == 0) = false ∧ 1048576 < (n : Int) ∧ k = 2) :
    Calls Tryd.prog 8 #[.int .u8 kind, .slice A n c] w (SealPost w [] (.int .i64 k)) := by
  rcases h with ⟨h, rfl⟩ | ⟨h, h', rfl⟩
  all_goals
    go_enter Tryd.func8, Tryd.ntmps8
    go_wp2_with fail
    go_ret2
    exact ⟨none, 0, 0, rfl, own_nil _ _ _ _ _ rfl, Below.refl _ _⟩
set_option maxHeartbeats 800000 in
theorem refSeal_ok (kind : UInt8) (A : Option Addr) (n c : Nat) (b : List UInt8) (w : World) {ok : Nat → Prop} (hr : Rd w ok 1 A n (bs b)) (hn : n ≤ 1048576) (hk : ((kind.toNat : Int) == 0) = false) :
    Calls Tryd.prog 8 #[.int .u8 kind.toNat, .slice A n c] w (SealPost w (sealF kind b) (.int .i64 0)) := by
  have hn' : (n : Int) ≤ 1048576 := by omega
  have hlit : Rd (w.alloc (.cells #[.int .u8 (kind.toNat : Int)] 5)) T 1 (some ⟨w.heap.size, 0, none⟩) 1 (bs [kind]) := (Rd.lit rfl).any
  go_enter Tryd.func8, Tryd.ntmps8
  go_wp2_with (first | (at_builtin; refine wpList_append_any _ (s := .tmp 12) (x := .tmp 14) Tryd.underlying22 u8_elem rfl (by omega) rfl rfl rfl (own_nil _ w.heap.size 5 1 0 rfl) rfl hlit (bs_one _) (by omega) (by simp) (Nat.zero_add 1) (List.nil_append _) ?_; go_must (intro A1 c1 w1 hown1 hg1 hat1; have hb1 : Below w.heap.size w w1 := ((Below.refl _ _).alloc (Nat.le_refl _) _).grown hg1 (by simp) (by simp); have z1 := hb1.size)) | (at_builtin; refine wpList_append_any _ (s := .tmp 15) (x := .tmp 16) Tryd.underlying22 u8_elem rfl (by omega) rfl rfl rfl hown1 rfl (hr.below hb1) (bs_one _) (by omega) z1 rfl (ys := bs (kind :: b)) rfl ?_; go_must (intro A2 c2 w2 hown2 hg2 hat2)))
  have hb2 : Below w.heap.size w w2 := hb1.grown hg2 z1 (fun g hg => (own_lt hown1 g hg).1)
  clear hown1 hg1 hat1 hb1 hlit
  refine (refSum_any A2 (1 + n) c2 (kind :: b) w2 (Rd.of_own hown2) (by omega)).mono ?_
  rintro e w3 ⟨rfl, hb3⟩
  have hown3 := own_below hown2 hb3
  replace hb2 := hb2.trans (hb3.mono hb2.size)
  have hsl := sumOf_lt (kind :: b)
  obtain ⟨s, hs⟩ : ∃ s, s = sumOf (kind :: b) := ⟨_, rfl⟩
  rw [← hs] at hsl ⊢
  have Hs := Lib.hid hs
  clear hs hb3 hown2 hg2 hat2
  go_wp2_with fail
  refine (tail_any s w3 hsl).mono ?_
  rintro e w4 ⟨A4, c4, rfl, r4, hb4⟩
  have hown4 := own_below hown3 hb4
  replace hb2 := hb2.trans (hb4.mono hb2.size)
  have z4 := hb2.size
  clear hown3 hb4
  go_wp2_with (at_builtin; go_must (refine wpList_append_any _ Tryd.underlying22 u8_elem rfl (by omega) rfl rfl rfl hown4 rfl r4 (bs_one _) (by omega) z4 rfl (ys := bs ((kind :: b) ++ tailOf s)) (bs_append _ _).symm ?_); intro A5 c5 w5 hown5 hg5 hat5)
  go_ret2
  refine ⟨A5, _, c5, rfl, ?_, hb2.grown hg5 z4 (fun g hg => (own_lt hown4 g hg).1)⟩
  unfold sealF
  rw [← Hs.out]
  exact hown5
end Go.Proofs.YtbcdanegcknamaaDoor
