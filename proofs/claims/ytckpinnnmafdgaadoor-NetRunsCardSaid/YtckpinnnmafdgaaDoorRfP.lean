/- The document's Put. -/
import Derived.Test.YtckpinnnmafdgaaDoorRf
import Derived.Test.YtckpinnnmafdgaaDoorGrow
import Derived.Deep.RegionLaw
namespace Go.Proofs.YtckpinnnmafdgaaDoor
open Go.RowKit
set_option maxRecDepth 100000
set_option linter.unusedVariables false
set_option linter.unusedSimpArgs false
/-- The document's net, plainly. -/
structure Pn where
  lim : Int
  last : Int
  l : List (Int × Int × Int × List UInt8)
  cuts : List Pr
def pn (r : Rn) : Pn := ⟨r.lim, r.last, r.l.map pl, r.cuts⟩
def RfP (W : World) (ok : Nat → Prop) (p : Pn) (f : Rn → Value) (e : Ending) (w' : World) : Prop := ∃ r', e = .returned (f r') ∧ RN w' (fun b => ok b ∨ W.heap.size ≤ b) r' ∧ pn r' = p ∧ Below W.heap.size W w'
def RfS (W : World) (v : Value) (e : Ending) (w' : World) : Prop := e = .returned v ∧ Below W.heap.size W w'
/-- Four cells of a new block, given a value each. -/
theorem below_four {B : Nat} {W w : World} (h : Below B W w) {g : Nat} (hg : B ≤ g) (a b c d : Value) : Below B W ((((w.setCell ⟨g, 0, none⟩ a).setCell ⟨g, 1, none⟩ b).setCell ⟨g, 2, none⟩ c).setCell ⟨g, 3, none⟩ d) :=
  (((h.setCell hg _).setCell hg _).setCell hg _).setCell hg _
set_option maxHeartbeats 1600000 in
theorem putR_stay (r : Rn) (a b : Int) (Ad : Option Addr) (nd cd : Nat) (w : World) {ok : Nat → Prop} (hr : RN w ok r) (hnd : nd ≤ 5000) (K : Int)
    (h : ((okP a = false ∨ (okP a = true ∧ okP b = false)) ∧ K = 1) ∨ (okP a = true ∧ okP b = true ∧ ((cutB r.cuts a b = true ∧ K = 0) ∨ (cutB r.cuts a b = false ∧ r.lim ≤ (r.ln : Int) ∧ K = 10)))) :
    Calls Tryd.prog 19 #[rnA r, .int .i64 a, .int .i64 b, .slice Ad nd cd] w (RfS w (.tuple #[rnA r, .int .i64 0, .int .i64 K])) := by
  have ha := fun W => placeR_any a W
  have hb := fun W => placeR_any b W
  have hcut := fun W (hW : Below w.heap.size w W) => cutR_any r a b W (hr.below hW)
  generalize okP a = qa at ha h
  generalize okP b = qb at hb h
  generalize cutB r.cuts a b = qc at hcut h
  have hn := hr.n1
  obtain ⟨lim, last, LA, ln, lc, l, CA, cn, cc, cuts⟩ := r
  unfold rnA at hcut ⊢
  dsimp only at hcut h hn ⊢
  obtain ⟨W0, hW0⟩ : ∃ W0, W0 = (w.alloc (.cells #[.int .i64 lim, .int .i64 last, .slice LA ln lc, .slice CA cn cc] 46)).alloc (.cells #[.int .i64 0, .int .i64 0, .slice none 0 0, .slice none 0 0] 46) := ⟨_, rfl⟩
  have b0 : Bx W0 w.heap.size #[.int .i64 lim, .int .i64 last, .slice LA ln lc, .slice CA cn cc] := by subst hW0; exact (Bx.new _ _ _ rfl).alloc _
  have b1 : Bx W0 (w.heap.size + 1) #[.int .i64 0, .int .i64 0, .slice none 0 0, .slice none 0 0] := by subst hW0; exact Bx.new _ _ _ (by simp)
  have hbe : Below w.heap.size w W0 := by subst hW0; exact ((Below.refl _ _).alloc (Nat.le_refl _) _).alloc (by simp) _
  have hnd' : ¬ ((1048576 : Int) < nd) := by omega
  obtain ⟨k0, k1, k2, k3, -⟩ := b0.c4
  obtain ⟨r0, r1, r2, r3, f0, f1, f2, f3⟩ := b1.c4
  have Ha := Lib.hid ha
  have Hb := Lib.hid hb
  have Hcut := Lib.hid hcut
  have B0 := Lib.hid b0
  have B1 := Lib.hid b1
  have Hbe := Lib.hid hbe
  have HW := Lib.hid hW0
  clear ha hb hcut hr b0 b1 hbe hW0
  rcases h with ⟨h, rfl⟩ | ⟨rfl, rfl, h⟩
  · rcases h with rfl | ⟨rfl, rfl⟩
    · go_enter Tryd.func19, Tryd.ntmps19
      go_wp2_with fail
      rw [← HW.out]
      refine (Ha.out _).mono ?_
      rintro e w1 ⟨rfl, rfl⟩
      go_wp2_with fail
      refine bodyPost_ret (by simp [results, Tryd.results19, go_sem, r0, r1, r2, r3]; rfl) rfl ?_
      exact ⟨rfl, below_four Hbe.out (by omega) _ _ _ _⟩
    · go_enter Tryd.func19, Tryd.ntmps19
      go_wp2_with fail
      rw [← HW.out]
      refine (Ha.out _).mono ?_
      rintro e w1 ⟨rfl, rfl⟩
      go_wp2_with fail
      refine (Hb.out _).mono ?_
      rintro e w1 ⟨rfl, rfl⟩
      go_wp2_with fail
      refine bodyPost_ret (by simp [results, Tryd.results19, go_sem, r0, r1, r2, r3]; rfl) rfl ?_
      exact ⟨rfl, below_four Hbe.out (by omega) _ _ _ _⟩
  · go_enter Tryd.func19, Tryd.ntmps19
    go_wp2_with fail
    rw [← HW.out]
    refine (Ha.out _).mono ?_
    rintro e w1 ⟨rfl, rfl⟩
    go_wp2_with fail
    refine (Hb.out _).mono ?_
    rintro e w1 ⟨rfl, rfl⟩
    go_wp2_with fail
    refine (Hcut.out _ Hbe.out).mono ?_
    rintro e w2 ⟨rfl, hb2⟩
    clear k0 k1 k2 k3 r0 r1 r2 r3 f0 f1 f2 f3
    have hb3 := Hbe.out.trans (hb2.mono Hbe.out.size)
    obtain ⟨k0, k1, k2, k3, -⟩ := (B0.out.below hb2).c4
    obtain ⟨r0, r1, r2, r3, f0, f1, f2, f3⟩ := (B1.out.below hb2).c4
    have Hb3 := Lib.hid hb3
    clear hb2 hb3
    rcases h with ⟨rfl, rfl⟩ | ⟨rfl, hl, rfl⟩
    · go_wp2_with fail
      refine bodyPost_ret (by simp [results, Tryd.results19, go_sem, r0, r1, r2, r3]; rfl) rfl ?_
      exact ⟨rfl, below_four Hb3.out (by omega) _ _ _ _⟩
    · go_wp2_with fail
      refine bodyPost_ret (by simp [results, Tryd.results19, go_sem, r0, r1, r2, r3]; rfl) rfl ?_
      exact ⟨rfl, below_four Hb3.out (by omega) _ _ _ _⟩
end Go.Proofs.YtckpinnnmafdgaaDoor
