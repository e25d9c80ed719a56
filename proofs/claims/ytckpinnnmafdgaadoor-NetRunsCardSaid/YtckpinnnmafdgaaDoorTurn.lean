/- Walk of net's Turn. -/
import Derived.Test.YtckpinnnmafdgaaDoorItems
import Derived.RegionTactic
namespace Go.Proofs.YtckpinnnmafdgaaDoor
open Go.RowKit
set_option linter.unusedVariables false
set_option linter.unusedSimpArgs false
set_option maxRecDepth 100000
/-- A net with its items' data: rows of their own, apart. -/
structure NI (W : World) (g gm : Nat) (lim last : Int) (cnt : Nat) (f : Int → Int → Int) (A : Option Addr) (nl cl : Nat) (l : List Ic) : Prop where
  ns : NS W g gm lim last cnt f A nl cl (flat icell l)
  dt : ∀ x ∈ l, W.ownsRow (g + 1) 5 1 (.slice x.A x.n x.c) x.n (bs x.d) ∧ x.n ≤ 1048576
  sp : ∀ x ∈ l, ∀ b, x.A.map (·.block) = some b → A.map (·.block) ≠ some b
  ds : l.Pairwise fun x y => ∀ b, x.A.map (·.block) = some b → y.A.map (·.block) ≠ some b
theorem NI.below {W W' : World} {g gm : Nat} {lim last : Int} {cnt : Nat} {f : Int → Int → Int} {A : Option Addr} {nl cl : Nat} {l : List Ic} (h : NI W g gm lim last cnt f A nl cl l) (hb : Below W.heap.size W W') : NI W' g gm lim last cnt f A nl cl l :=
  ⟨h.ns.below hb, fun x hx => ⟨own_below (h.dt x hx).1 hb, (h.dt x hx).2⟩, h.sp, h.ds⟩
def TurnErr (W : World) (k : Int) (e : Ending) (w' : World) : Prop := e = .returned (errK k) ∧ Below W.heap.size W w'
theorem turn_none (g gm : Nat) (lim last : Int) (cnt : Nat) (f : Int → Int → Int) (A : Option Addr) (nl cl : Nat) (l : List Ic) (z bit : Int) (w : World) (h : NI w g gm lim last cnt f A nl cl l) (hn : nl ≤ 1000000) (hno : ∀ x ∈ l, byId z x = false) :
    Calls Tryd.prog 10 #[.pointer (some ⟨g, 0, none⟩), .int .i64 z, .int .i64 bit] w (TurnErr w 8) := by
  have hf := find_any g gm lim last cnt f A nl cl l z w h.ns hn
  have Hf := Lib.hid hf
  have Hno := Lib.hid hno
  clear hf h hno
  go_enter Tryd.func10, Tryd.ntmps10
  go_wp2_with fail
  refine Hf.out.mono ?_
  rintro e w2 ⟨h1, hb⟩
  rcases h1 with ⟨i, x, rfl, h1, h2, _⟩ | ⟨rfl, _⟩
  · exfalso
    rw [Hno.out x (List.mem_of_getElem? h1)] at h2
    cases h2
  · unfold errK
    go_wp2_with fail
    go_ret
    exact ⟨rfl, hb⟩
theorem turn_out (g gm : Nat) (lim last : Int) (cnt : Nat) (f : Int → Int → Int) (A : Option Addr) (nl cl : Nat) (l : List Ic) (z bit : Int) (w : World) (h : NI w g gm lim last cnt f A nl cl l) (hn : nl ≤ 1000000) (j : Nat) (y : Ic) (hy : l[j]? = some y) (hz : byId z y = true) (hne : ∀ x ∈ l.take j, byId z x = false) (hbit : bit < 0 ∨ (0 ≤ bit ∧ 8 * (y.n : Int) ≤ bit)) :
    Calls Tryd.prog 10 #[.pointer (some ⟨g, 0, none⟩), .int .i64 z, .int .i64 bit] w (TurnErr w 4) := by
  have hf := find_any g gm lim last cnt f A nl cl l z w h.ns hn
  have Hf := Lib.hid hf
  have Hne := Lib.hid hne
  have Hy := Lib.hid (And.intro hy hz)
  have H := Lib.hid h
  clear hf h hne hy hz
  go_enter Tryd.func10, Tryd.ntmps10
  go_wp2_with fail
  refine Hf.out.mono ?_
  rintro e w2 ⟨h1, hb⟩
  have hij : ∃ i : Nat, i = j ∧ e = .returned (.tuple #[.int .i64 i, .nilIface]) := by
    rcases h1 with ⟨i, x, rfl, h1, h2, h3⟩ | ⟨_, h3⟩
    · refine ⟨i, ?_, rfl⟩
      rcases Nat.lt_trichotomy i j with hlt | he | hlt
      · have hm : x ∈ l.take j := List.mem_iff_getElem?.2 ⟨i, by rw [List.getElem?_take, if_pos hlt, h1]⟩
        rw [Hne.out x hm] at h2
        cases h2
      · exact he
      · have hm : y ∈ l.take i := List.mem_iff_getElem?.2 ⟨j, by rw [List.getElem?_take, if_pos hlt, Hy.out.1]⟩
        have := Hy.out.2
        rw [h3 y hm] at this
        cases this
    · have := Hy.out.2
      rw [h3 y (List.mem_of_getElem? Hy.out.1)] at this
      cases this
  obtain ⟨i, rfl, rfl⟩ := hij
  have hns := H.out.ns.below hb
  have k2 : w2.cell? ⟨g, 2, none⟩ = some (.slice A nl cl) := hns.bx.c 2
  have hl := (Rd.of_own hns.own).flen icell_len (by omega)
  have hil : i < nl := by rw [← hl]; exact (List.getElem?_eq_some_iff.1 Hy.out.1).1
  obtain ⟨b, o, x, rfl, _, _, hx, _, _, _, hc3⟩ := ic_cells (Rd.of_own hns.own) hil
  rw [Hy.out.1] at hx
  obtain rfl : y = x := by simpa using hx
  have hni := (H.out.dt y (List.mem_of_getElem? Hy.out.1)).2
  have hilI : (i : Int) < nl := by omega
  clear h1 hns hl hx
  rcases hbit with hbit | ⟨hb0, hb1⟩
  · go_wp2_with fail
    go_ret
    exact ⟨rfl, hb⟩
  · have hb2 : ¬ bit < 0 := by omega
    go_wp2_with fail
    go_ret
    exact ⟨rfl, hb⟩
end Go.Proofs.YtckpinnnmafdgaaDoor
