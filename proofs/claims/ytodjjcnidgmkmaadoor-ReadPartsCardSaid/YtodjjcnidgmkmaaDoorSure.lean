/- Walk of tollbarlaw14.sure. -/
import Derived.Test.YtodjjcnidgmkmaaDoorAdd
import Derived.Test.YtodjjcnidgmkmaaDoorInts
namespace Go.Proofs.YtodjjcnidgmkmaaDoor
open Go.RowKit
set_option linter.unusedVariables false
set_option linter.unusedSimpArgs false
theorem ii_len {w : World} {ok : Nat → Prop} {n : Nat} {A : Option Addr} {l : List Int} (h : Rd w ok 1 A n (ii l)) : l.length = n := by have := h.1; simpa [ii] using this
set_option maxHeartbeats 800000 in
theorem sure_any (w : World) : Calls Tryd.prog 5 #[] w (YesPost w) := by
  have h1 := add_good 2 none 0 0 [] ⟨1, 3, 5, 9⟩ w (ok := T) Rd.none_ (by omega) (by decide) (by decide) (by omega)
  have H1 := Lib.hid h1
  clear h1
  unfold quA itA at H1
  go_enter Tryd.func5, Tryd.ntmps5
  go_wp2_with fail
  refine H1.out.mono ?_
  rintro e w1 ⟨A1, n1, c1, rfl, r1, hb⟩
  unfold quA
  have b1 := Bx.new w1 #[.int .i64 2, .slice A1 n1 c1] 30 rfl
  replace r1 := r1.alloc (.cells #[.int .i64 2, .slice A1 n1 c1] 30)
  have hn1 := r1.flen itc_len (by omega)
  have hn1' : n1 ≤ 1000000 := by rw [← hn1]; simp
  replace hb := hb.alloc hb.size (.cells #[.int .i64 2, .slice A1 n1 c1] 30)
  have h2 := take_good 2 A1 n1 c1 ([] ++ [⟨1, 3, 5, 9⟩]) 1 3 4 _ r1 hn1' 2 _ _ (.inl ⟨by decide, rfl, rfl, rfl⟩)
  have H2 := Lib.hid h2
  unfold quA at H2
  clear h2 hn1
  go_wp2_with fail
  refine H2.out.mono ?_
  rintro e w2 ⟨A2, n2, c2, B2, m2, d2, rfl, _, r3, hb2⟩
  have b2 := b1.below hb2
  replace r1 := r1.below hb2
  replace hb := hb.trans (hb2.mono hb.size)
  have hm2 := ii_len r3
  have em2 : m2 = 0 := by rw [← hm2]; decide
  subst em2
  have k0 := b2.c 0
  have k1 := b2.c 1
  simp at k0 k1
  unfold quA
  have z2 := b2.lt
  have h3 := fun o => take_good 2 A1 n1 c1 ([] ++ [⟨1, 3, 5, 9⟩]) 1 3 5 _ (r1.alloc o) hn1' 2 _ _ (.inl ⟨by decide, rfl, rfl, rfl⟩)
  have H3 := Lib.hid h3
  unfold quA at H3
  clear h3 hm2 hb2 b1
  have q0 : ∀ o, (w2.alloc o).cell? ⟨w1.heap.size, 0, none⟩ = some (.int .i64 2) := fun o => (b2.alloc o).c 0
  have q1 : ∀ o, (w2.alloc o).cell? ⟨w1.heap.size, 1, none⟩ = some (.slice A1 n1 c1) := fun o => (b2.alloc o).c 1
  go_wp2_with fail
  refine (H3.out _).mono ?_
  rintro e w3 ⟨A3, n3, c3, B3, m3, d3, rfl, _, r4, hb3⟩
  replace hb := (hb.alloc hb.size _).trans (hb3.mono (hb.alloc hb.size _).size)
  unfold quA
  have hz := hb.size
  clear hb3 q0 q1 k0 k1
  have r5 : Rd ((w3.alloc (.cells #[.int .i64 2, .slice A3 n3 c3] 30)).alloc (.cells #[.int .i64 9] 3)) T 1 (some ⟨w3.heap.size + 1, 0, none⟩) 1 (ii [9]) := by
    have := Rd.lit (w := w3.alloc (.cells #[.int .i64 2, .slice A3 n3 c3] 30)) (cs := #[.int .i64 9]) (t := 3) (fr := (0, 0)) (k := 1) rfl
    simpa [ii] using this.any
  have h4 := ints_any B3 m3 d3 _ 1 1 _ [9] _ ((r4.alloc _).alloc _) r5 (by have := ii_len r4; rw [← this]; decide)
  have e4 : decide (outOf (isTake 1 3 5) ([] ++ [⟨1, 3, 5, 9⟩]) = [9]) = true := by decide
  rw [e4] at h4
  have H4 := Lib.hid h4
  clear h4 e4 r4 r5
  go_wp2_with fail
  refine H4.out.mono ?_
  rintro e w4 ⟨rfl, hb4⟩
  go_wp2_with fail
  go_ret
  exact ⟨rfl, ((hb.alloc hz _).alloc (by simp; omega) _).trans (hb4.mono (by simp; omega))⟩
end Go.Proofs.YtodjjcnidgmkmaaDoor
