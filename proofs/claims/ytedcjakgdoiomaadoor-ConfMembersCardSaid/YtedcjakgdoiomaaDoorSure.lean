/- Walk of the law's sure. -/
import Derived.Test.YtedcjakgdoiomaaDoorConf4
namespace Go.Proofs.YtedcjakgdoiomaaDoor
open Go.RowKit
set_option maxRecDepth 100000
set_option linter.unusedVariables false
set_option linter.unusedSimpArgs false
theorem two_new {w : World} {cs ds : Array Value} {t t2 : TypeId} {f1 f2 : Nat × Nat} {k1 k2 z1 z2 : Nat} {xs ys : List Value} (h1 : cs.size = k1 * z1) (h2 : ds.size = k2 * z2) (e1 : cs.toList = xs) (e2 : ds.toList = ys) :
    Rd ((w.alloc (.cells cs t f1)).alloc (.cells ds t2 f2)) T z1 (some ⟨w.heap.size, 0, none⟩) k1 xs ∧ Rd ((w.alloc (.cells cs t f1)).alloc (.cells ds t2 f2)) T z2 (some ⟨w.heap.size + 1, 0, none⟩) k2 ys ∧ Below w.heap.size w ((w.alloc (.cells cs t f1)).alloc (.cells ds t2 f2)) := by
  subst e1 e2
  have a1 : Rd (w.alloc (.cells cs t f1)) T z1 (some ⟨w.heap.size, 0, none⟩) k1 cs.toList := ⟨by simpa using h1, fun _ => ⟨_, rfl, trivial, fun j u hu => World.news_of_block (heap_alloc_new w _) j u hu⟩⟩
  have a2 : Rd ((w.alloc (.cells cs t f1)).alloc (.cells ds t2 f2)) T z2 (some ⟨(w.alloc (.cells cs t f1)).heap.size, 0, none⟩) k2 ds.toList := ⟨by simpa using h2, fun _ => ⟨_, rfl, trivial, fun j u hu => World.news_of_block (heap_alloc_new _ _) j u hu⟩⟩
  rw [World.size_alloc] at a2
  exact ⟨a1.alloc _, a2, ((Below.refl _ _).alloc (Nat.le_refl _) _).alloc (by simp) _⟩
theorem sure_agreed : agreed [1, 2, 3] [⟨1, 5⟩, ⟨2, 9⟩, ⟨3, 7⟩] = 7 := by
  have h1 := quor_some (c := [1, 2, 3]) (l := [⟨1, 5⟩, ⟨2, 9⟩, ⟨3, 7⟩]) (n := 7) (by decide) (by omega)
  have h2 := quor_some (c := [1, 2, 3]) (l := [⟨1, 5⟩, ⟨2, 9⟩, ⟨3, 7⟩]) (n := 8) (by decide) (by omega)
  rw [show quor [1, 2, 3] (someOf 7 [⟨1, 5⟩, ⟨2, 9⟩, ⟨3, 7⟩]) = true by decide] at h1
  rw [show quor [1, 2, 3] (someOf 8 [⟨1, 5⟩, ⟨2, 9⟩, ⟨3, 7⟩]) = false by decide] at h2
  have h3 := of_decide_eq_true h1.symm
  have h4 := of_decide_eq_false h2.symm
  omega
theorem sure_any (w : World) : Calls Tryd.prog 4 #[] w (YesPost w) := by
  go_enter Tryd.func4, Tryd.ntmps4
  obtain ⟨r1, r2, hb1⟩ := two_new (w := w) (cs := #[.int .i64 1, .int .i64 2, .int .i64 3]) (ds := #[.int .i64 3, .int .i64 1]) (t := 3) (t2 := 3) (f1 := (0, 0)) (f2 := (0, 0)) (k1 := 3) (k2 := 2) (z1 := 1) (z2 := 1) (xs := ii [1, 2, 3]) (ys := ii [3, 1]) rfl rfl rfl rfl
  go_wp2_with fail
  have h := quorum_any (some ⟨w.heap.size, 0, none⟩) 3 3 [1, 2, 3] (some ⟨w.heap.size + 1, 0, none⟩) 2 2 [3, 1] _ r1 (by omega) r2 (by omega)
  rw [show quor [1, 2, 3] [3, 1] = true by decide] at h
  refine h.mono ?_
  rintro e w1 ⟨rfl, rfl⟩
  clear h r1 r2
  generalize ((w.alloc (.cells #[.int .i64 1, .int .i64 2, .int .i64 3] 3)).alloc (.cells #[.int .i64 3, .int .i64 1] 3)) = w1 at hb1
  obtain ⟨r1, r2, hb2⟩ := two_new (w := w1) (cs := #[.int .i64 1, .int .i64 2, .int .i64 3]) (ds := #[.int .i64 3, .int .i64 3]) (t := 3) (t2 := 3) (f1 := (0, 0)) (f2 := (0, 0)) (k1 := 3) (k2 := 2) (z1 := 1) (z2 := 1) (xs := ii [1, 2, 3]) (ys := ii [3, 3]) rfl rfl rfl rfl
  go_wp2_with fail
  have h := quorum_any (some ⟨w1.heap.size, 0, none⟩) 3 3 [1, 2, 3] (some ⟨w1.heap.size + 1, 0, none⟩) 2 2 [3, 3] _ r1 (by omega) r2 (by omega)
  rw [show quor [1, 2, 3] [3, 3] = false by decide] at h
  refine h.mono ?_
  rintro e w2 ⟨rfl, rfl⟩
  replace hb2 := hb1.trans (hb2.mono hb1.size)
  clear h r1 r2 hb1
  generalize ((w1.alloc (.cells #[.int .i64 1, .int .i64 2, .int .i64 3] 3)).alloc (.cells #[.int .i64 3, .int .i64 3] 3)) = w2 at hb2
  obtain ⟨r1, r2, hb3⟩ := two_new (w := w2) (cs := #[.int .i64 1, .int .i64 2, .int .i64 3]) (ds := #[.int .i64 1, .int .i64 5, .int .i64 2, .int .i64 9, .int .i64 3, .int .i64 7]) (t := 3) (t2 := 41) (f1 := (0, 0)) (f2 := (0, 0)) (k1 := 3) (k2 := 3) (z1 := 1) (z2 := 2) (xs := ii [1, 2, 3]) (ys := flat mkc [⟨1, 5⟩, ⟨2, 9⟩, ⟨3, 7⟩]) rfl rfl rfl rfl
  go_wp2_with fail
  have h := agreed_any (some ⟨w2.heap.size, 0, none⟩) 3 3 [1, 2, 3] (some ⟨w2.heap.size + 1, 0, none⟩) 3 3 [⟨1, 5⟩, ⟨2, 9⟩, ⟨3, 7⟩] _ r1 (by omega) r2 (by omega)
  rw [sure_agreed] at h
  refine h.mono ?_
  rintro e w3 ⟨rfl, hb4⟩
  replace hb3 := hb2.trans (hb3.mono hb2.size)
  replace hb3 := hb3.trans (hb4.mono hb3.size)
  go_wp2_with fail
  go_ret
  exact ⟨rfl, hb3⟩
end Go.Proofs.YtedcjakgdoiomaaDoor
