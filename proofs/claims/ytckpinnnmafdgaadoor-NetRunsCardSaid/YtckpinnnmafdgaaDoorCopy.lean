/- Walk of net's Copy. -/
import Derived.Test.YtckpinnnmafdgaaDoorTake
import Derived.Test.YtckpinnnmafdgaaDoorStill
namespace Go.Proofs.YtckpinnnmafdgaaDoor
open Go.RowKit
set_option linter.unusedVariables false
set_option linter.unusedSimpArgs false
set_option maxRecDepth 100000
def CopyNone (W : World) (e : Ending) (w' : World) : Prop := e = .returned (.tuple #[.int .i64 0, errK 8]) ∧ Below W.heap.size W w'
theorem copy_none (g gm : Nat) (lim last : Int) (cnt : Nat) (f : Int → Int → Int) (A : Option Addr) (nl cl : Nat) (l : List Ic) (z : Int) (w : World) (h : NS w g gm lim last cnt f A nl cl (flat icell l)) (hn : nl ≤ 1000000) (hno : ∀ x ∈ l, byId z x = false) :
    Calls Tryd.prog 7 #[.pointer (some ⟨g, 0, none⟩), .int .i64 z] w (CopyNone w) := by
  have hf := find_any g gm lim last cnt f A nl cl l z w h hn
  have Hf := Lib.hid hf
  have Hno := Lib.hid hno
  clear hf h hno
  go_enter Tryd.func7, Tryd.ntmps7
  go_wp2_with fail
  refine Hf.out.mono ?_
  rintro e w2 hp
  obtain ⟨rfl, hb⟩ := find_no hp Hno.out
  unfold errK
  go_wp2_with fail
  go_ret2
  exact ⟨rfl, hb⟩
def TwoPost (R : Int → Value → World → Prop) (e : Ending) (w' : World) : Prop := ∃ z v, e = .returned (.tuple #[.int .i64 z, v]) ∧ R z v w'
set_option maxHeartbeats 1600000 in
/-- One that is on its way is put once more. -/
theorem copy_put (g gm : Nat) (lim last : Int) (cnt : Nat) (f : Int → Int → Int) (A : Option Addr) (nl cl : Nat) (l : List Ic) (z : Int) (w : World) (h : NS w g gm lim last cnt f A nl cl (flat icell l)) (hn : nl ≤ 1000000) (j : Nat) (y : Ic) (hy : l[j]? = some y) (hz : byId z y = true) (hne : ∀ x ∈ l.take j, byId z x = false) (R : Int → Value → World → Prop)
    (hput : ∀ w2, Below w.heap.size w w2 → Calls Tryd.prog 5 #[.pointer (some ⟨g, 0, none⟩), .int .i64 y.fr, .int .i64 y.to, .slice y.A y.n y.c] w2 (TwoPost R)) :
    Calls Tryd.prog 7 #[.pointer (some ⟨g, 0, none⟩), .int .i64 z] w (TwoPost R) := by
  have hf := find_any g gm lim last cnt f A nl cl l z w h hn
  have Hf := Lib.hid hf
  have Hne := Lib.hid hne
  have Hy := Lib.hid (And.intro hy hz)
  have H := Lib.hid h
  have Hput := Lib.hid hput
  clear hf h hne hy hz hput
  go_enter Tryd.func7, Tryd.ntmps7
  go_wp2_with fail
  refine Hf.out.mono ?_
  rintro e w2 hp
  obtain ⟨rfl, hb⟩ := find_at hp Hy.out.1 Hy.out.2 Hne.out
  have hns := H.out.below hb
  have k2 : w2.cell? ⟨g, 2, none⟩ = some (.slice A nl cl) := hns.bx.c 2
  have hll := (Rd.of_own hns.own).flen icell_len (by omega)
  have hil : j < nl := by have := (List.getElem?_eq_some_iff.1 Hy.out.1).1; omega
  obtain ⟨b, o, x, rfl, _, hbl, hx, hc0, hc1, hc2, hc3⟩ := ic_cells (Rd.of_own hns.own) hil
  rw [Hy.out.1] at hx
  obtain rfl : y = x := by simpa using hx
  have hilI : (j : Int) < nl := by omega
  have Hb := Lib.hid hb
  clear hp hx hns hb hll
  go_wp2_with fail
  refine wp_region_reads_then 25 (by kernel_rfl) (by kernel_rfl) ?_
  simp only [List.take_succ_cons, List.take_zero]
  repeat still_step
  refine wpStill_nil ?_
  show wpAny _ _ _ _ 5 _ _ _
  refine wpAny_ready (rs := [25]) (by kernel_rfl) (by simp) ?_
  refine AllReady.cons rfl (fun K hK => ?_) AllReady.nil
  go_simp
  go_at_call 5
  refine (Hput.out _ Hb.out.drew).mono ?_
  rintro e w3 ⟨z3, v3, rfl, h3⟩
  refine hK _ _ ?_
  clear hK K
  refine wpAny_take (i := 26) (v := ?_) rfl (by kernel_rfl) (by kernel_rfl) (by kernel_rfl) (fun _ _ _ h => h) (Or.inl ⟨by rfl, ?_⟩) ?_
  rotate_left
  · intro w
    go_simp
    try with_reducible rfl
  refine wpAny_take (i := 27) (v := ?_) rfl (by kernel_rfl) (by kernel_rfl) (by kernel_rfl) (fun _ _ _ h => h) (Or.inl ⟨by rfl, ?_⟩) ?_
  rotate_left
  · intro w
    go_simp
    try with_reducible rfl
  refine wpAny_take (i := 28) (v := ?_) rfl (by kernel_rfl) (by kernel_rfl) (by kernel_rfl) (fun _ _ _ h => h) (Or.inl ⟨by rfl, ?_⟩) ?_
  rotate_left
  · intro w
    go_simp
    try with_reducible rfl
  refine wpAny_take (i := 29) (v := ?_) rfl (by kernel_rfl) (by kernel_rfl) (by kernel_rfl) (fun _ _ _ h => h) (Or.inl ⟨by rfl, ?_⟩) ?_
  rotate_left
  · intro w
    go_simp
    try with_reducible rfl
  refine wpAny_done (by kernel_rfl) ?_ _
  go_wp2_with fail
  go_ret2
  exact ⟨_, _, rfl, h3⟩
end Go.Proofs.YtckpinnnmafdgaaDoor
