/- Walks: the closures of net.at and net.First, IndexFunc at them, at, find. (Printed by mkat.py.) -/
import Derived.Test.YtckpinnnmafdgaaDoorNet
namespace Go.Proofs.YtckpinnnmafdgaaDoor
open Go.RowKit
set_option linter.unusedVariables false
set_option linter.unusedSimpArgs false
set_option maxRecDepth 100000
/-- An item as its cells are, and its data. -/
structure Ic where
  id : Int
  fr : Int
  to : Int
  A : Option Addr
  n : Nat
  c : Nat
  d : List UInt8
def icell (x : Ic) : List Value := [.int .i64 x.id, .int .i64 x.fr, .int .i64 x.to, .slice x.A x.n x.c]
theorem icell_len (x : Ic) : (icell x).length = 4 := rfl
def icA (x : Ic) : Value := .agg #[.int .i64 x.id, .int .i64 x.fr, .int .i64 x.to, .slice x.A x.n x.c]
theorem ic_cells {w : World} {ok : Nat → Prop} {n : Nat} {A : Option Addr} {l : List Ic} (h : Rd w ok 4 A n (flat icell l)) {j : Nat} (hj : j < n) : ∃ b o x, A = some ⟨b, o, none⟩ ∧ ok b ∧ b < w.heap.size ∧ l[j]? = some x ∧
    w.cell? ⟨b, o + j * 4, none⟩ = some (.int .i64 x.id) ∧ w.cell? ⟨b, o + j * 4 + 1, none⟩ = some (.int .i64 x.fr) ∧ w.cell? ⟨b, o + j * 4 + 2, none⟩ = some (.int .i64 x.to) ∧ w.cell? ⟨b, o + j * 4 + 3, none⟩ = some (.slice x.A x.n x.c) := by
  obtain ⟨b, o, x, hA, hb, hlt, hx, hc⟩ := h.fat icell_len (by omega) hj
  exact ⟨b, o, x, hA, hb, hlt, hx, hc 0 _ rfl, hc 1 _ rfl, hc 2 _ rfl, hc 3 _ rfl⟩
/-- k is the place of the first of l that p holds of, or -1. -/
def At {α : Type} (p : α → Bool) (l : List α) (k : Int) : Prop := (∃ (i : Nat) (x : α), k = i ∧ l[i]? = some x ∧ p x = true ∧ ∀ y ∈ l.take i, p y = false) ∨ (k = -1 ∧ ∀ y ∈ l, p y = false)
def AtPost {α : Type} (W : World) (p : α → Bool) (l : List α) (e : Ending) (w' : World) : Prop := ∃ k : Int, e = .returned (.int .i64 k) ∧ At p l k ∧ Below W.heap.size W w'
def byId (z : Int) (x : Ic) : Bool := x.id == z
def byTo (z : Int) (x : Ic) : Bool := x.to == z
def BoolP (W : World) (b : Bool) (e : Ending) (w' : World) : Prop := e = .returned (.bool b) ∧ Below W.heap.size W w'
theorem id1_any (z : Int) (x : Ic) (w : World) (b1 : Nat) (c1 : w.cell? ⟨b1, 0, none⟩ = some (.int .i64 z)) :
    Calls Tryd.prog 38 #[icA x, .pointer (some ⟨b1, 0, none⟩)] w (BoolP w (byId z x)) := by
  have l1 := World.block_lt_of_cell? w _ c1
  have d1 : ∀ o, (w.alloc o).cell? ⟨b1, 0, none⟩ = some (.int .i64 z) := fun o => (World.cell?_alloc_lt _ _ ⟨b1, 0, none⟩ l1).trans c1
  obtain ⟨xid, xfr, xto, xA, xn, xc, xd⟩ := x
  unfold icA
  unfold byId
  dsimp only at *
  clear c1
  go_enter Tryd.func38, Tryd.ntmps38
  go_wp2_with fail
  go_ret
  exact ⟨rfl, (Below.refl _ _).alloc (Nat.le_refl _) _⟩
set_option maxHeartbeats 800000 in
theorem idIdx_any (z : Int) (A : Option Addr) (n c : Nat) (l : List Ic) (w : World) {ok : Nat → Prop} (b1 : Nat) (c1 : w.cell? ⟨b1, 0, none⟩ = some (.int .i64 z)) (hr : Rd w ok 4 A n (flat icell l)) (hn : n ≤ 1000000) :
    Calls Tryd.prog 26 #[.slice A n c, .func (.func 38) #[] #[.pointer (some ⟨b1, 0, none⟩)]] w (AtPost w (byId z) l) := by
  have hl := hr.flen icell_len (by omega)
  have Hl := Lib.hid hl
  have l1 := World.block_lt_of_cell? w _ c1
  have hclo := fun (W : World) (x : Ic) (hb : Below w.heap.size w W) => id1_any z x W b1 ((hb.cell (p := ⟨b1, 0, none⟩) l1).trans c1)
  have Hclo := Lib.hid hclo
  have C1 := Lib.hid c1
  clear hl hclo c1
  go_enter Tryd.func26, Tryd.ntmps26
  go_wp2_with fail
  go_loopg [5, 8] n (fun m s5 s8 wr => ∃ j : Nat, m = n - j ∧ j ≤ n ∧ s8 = .int .i64 j ∧ (∀ y ∈ l.take j, byId z y = false) ∧ Below w.heap.size w wr)
  case atStart => exact ⟨0, by omega, by omega, rfl, by simp, Below.refl _ _⟩
  case round =>
    obtain ⟨j, hm, hj, rfl, hno, hb⟩ := hrel
    have Hm := Lib.hid hm
    have Hno := Lib.hid hno
    clear hm hno
    by_cases hlt : j < n
    · obtain ⟨b, o, x, rfl, _, hbl, hx, hc0, hc1, hc2, hc3⟩ := ic_cells (hr.below hb) hlt
      have hs : l.take (j + 1) = l.take j ++ [x] := by rw [List.take_add_one, hx]; rfl
      have Hx := Lib.hid hx
      have Hs := Lib.hid hs
      have hodd := Hclo.out wr x hb
      have Hodd := Lib.hid hodd
      clear hs hx hodd
      obtain ⟨m, hm⟩ : ∃ m, m = byId z x := ⟨_, rfl⟩
      rw [← hm] at Hodd
      have Hmm := Lib.hid hm
      clear hm
      unfold icA at Hodd
      have hjn : (j : Int) < n := by omega
      rcases Bool.eq_false_or_eq_true m with hz | hz
      · subst hz
        go_wp2_with fail
        refine Hodd.out.mono ?_
        rintro e w' ⟨rfl, hb2⟩
        go_wp2_with fail
        go_ret
        exact ⟨_, rfl, .inl ⟨j, x, rfl, Hx.out, Hmm.out.symm, Hno.out⟩, hb.trans (hb2.mono hb.size)⟩
      · subst hz
        go_wp2_with fail
        refine Hodd.out.mono ?_
        rintro e w' ⟨rfl, hb2⟩
        go_wp2_with fail
        go_roundg (n - (j + 1))
        case measure => have := Hm.out; omega
        case rel =>
          refine ⟨j + 1, rfl, by omega, by go_num, ?_, hb.trans (hb2.mono hb.size)⟩
          intro y hy
          rw [Hs.out] at hy
          rcases List.mem_append.1 hy with hy | hy
          · exact Hno.out y hy
          · obtain rfl := List.mem_singleton.1 hy
            exact Hmm.out.symm
    · obtain rfl : j = n := by omega
      go_wp2_with fail
      go_ret
      refine ⟨_, rfl, .inr ⟨rfl, ?_⟩, hb⟩
      have := Hno.out
      rwa [List.take_of_length_le (Nat.le_of_eq Hl.out)] at this
theorem to1_any (z : Int) (x : Ic) (w : World) (b1 : Nat) (c1 : w.cell? ⟨b1, 0, none⟩ = some (.int .i64 z)) :
    Calls Tryd.prog 27 #[icA x, .pointer (some ⟨b1, 0, none⟩)] w (BoolP w (byTo z x)) := by
  have l1 := World.block_lt_of_cell? w _ c1
  have d1 : ∀ o, (w.alloc o).cell? ⟨b1, 0, none⟩ = some (.int .i64 z) := fun o => (World.cell?_alloc_lt _ _ ⟨b1, 0, none⟩ l1).trans c1
  obtain ⟨xid, xfr, xto, xA, xn, xc, xd⟩ := x
  unfold icA
  unfold byTo
  dsimp only at *
  clear c1
  go_enter Tryd.func27, Tryd.ntmps27
  go_wp2_with fail
  go_ret
  exact ⟨rfl, (Below.refl _ _).alloc (Nat.le_refl _) _⟩
set_option maxHeartbeats 800000 in
theorem toIdx_any (z : Int) (A : Option Addr) (n c : Nat) (l : List Ic) (w : World) {ok : Nat → Prop} (b1 : Nat) (c1 : w.cell? ⟨b1, 0, none⟩ = some (.int .i64 z)) (hr : Rd w ok 4 A n (flat icell l)) (hn : n ≤ 1000000) :
    Calls Tryd.prog 26 #[.slice A n c, .func (.func 27) #[] #[.pointer (some ⟨b1, 0, none⟩)]] w (AtPost w (byTo z) l) := by
  have hl := hr.flen icell_len (by omega)
  have Hl := Lib.hid hl
  have l1 := World.block_lt_of_cell? w _ c1
  have hclo := fun (W : World) (x : Ic) (hb : Below w.heap.size w W) => to1_any z x W b1 ((hb.cell (p := ⟨b1, 0, none⟩) l1).trans c1)
  have Hclo := Lib.hid hclo
  have C1 := Lib.hid c1
  clear hl hclo c1
  go_enter Tryd.func26, Tryd.ntmps26
  go_wp2_with fail
  go_loopg [5, 8] n (fun m s5 s8 wr => ∃ j : Nat, m = n - j ∧ j ≤ n ∧ s8 = .int .i64 j ∧ (∀ y ∈ l.take j, byTo z y = false) ∧ Below w.heap.size w wr)
  case atStart => exact ⟨0, by omega, by omega, rfl, by simp, Below.refl _ _⟩
  case round =>
    obtain ⟨j, hm, hj, rfl, hno, hb⟩ := hrel
    have Hm := Lib.hid hm
    have Hno := Lib.hid hno
    clear hm hno
    by_cases hlt : j < n
    · obtain ⟨b, o, x, rfl, _, hbl, hx, hc0, hc1, hc2, hc3⟩ := ic_cells (hr.below hb) hlt
      have hs : l.take (j + 1) = l.take j ++ [x] := by rw [List.take_add_one, hx]; rfl
      have Hx := Lib.hid hx
      have Hs := Lib.hid hs
      have hodd := Hclo.out wr x hb
      have Hodd := Lib.hid hodd
      clear hs hx hodd
      obtain ⟨m, hm⟩ : ∃ m, m = byTo z x := ⟨_, rfl⟩
      rw [← hm] at Hodd
      have Hmm := Lib.hid hm
      clear hm
      unfold icA at Hodd
      have hjn : (j : Int) < n := by omega
      rcases Bool.eq_false_or_eq_true m with hz | hz
      · subst hz
        go_wp2_with fail
        refine Hodd.out.mono ?_
        rintro e w' ⟨rfl, hb2⟩
        go_wp2_with fail
        go_ret
        exact ⟨_, rfl, .inl ⟨j, x, rfl, Hx.out, Hmm.out.symm, Hno.out⟩, hb.trans (hb2.mono hb.size)⟩
      · subst hz
        go_wp2_with fail
        refine Hodd.out.mono ?_
        rintro e w' ⟨rfl, hb2⟩
        go_wp2_with fail
        go_roundg (n - (j + 1))
        case measure => have := Hm.out; omega
        case rel =>
          refine ⟨j + 1, rfl, by omega, by go_num, ?_, hb.trans (hb2.mono hb.size)⟩
          intro y hy
          rw [Hs.out] at hy
          rcases List.mem_append.1 hy with hy | hy
          · exact Hno.out y hy
          · obtain rfl := List.mem_singleton.1 hy
            exact Hmm.out.symm
    · obtain rfl : j = n := by omega
      go_wp2_with fail
      go_ret
      refine ⟨_, rfl, .inr ⟨rfl, ?_⟩, hb⟩
      have := Hno.out
      rwa [List.take_of_length_le (Nat.le_of_eq Hl.out)] at this
theorem cell_new (w : World) (v : Value) (t : TypeId) : (w.alloc (.cells #[v] t)).cell? ⟨w.heap.size, 0, none⟩ = some v := World.news_of_block (heap_alloc_new w _) 0 v rfl
theorem at_any (g gm : Nat) (lim last : Int) (cnt : Nat) (f : Int → Int → Int) (A : Option Addr) (nl cl : Nat) (l : List Ic) (z : Int) (w : World) (hns : NS w g gm lim last cnt f A nl cl (flat icell l)) (hn : nl ≤ 1000000) :
    Calls Tryd.prog 33 #[.pointer (some ⟨g, 0, none⟩), .int .i64 z] w (AtPost w (byId z) l) := by
  have k2 : ∀ o, (w.alloc o).cell? ⟨g, 2, none⟩ = some (.slice A nl cl) := fun o => (hns.alloc o).bx.c 2
  have hr := fun o => Rd.of_own (hns.alloc o).own
  have Hr := Lib.hid hr
  have hc := cell_new w
  have Hc := Lib.hid hc
  clear hns hr hc
  go_enter Tryd.func33, Tryd.ntmps33
  go_wp2_with fail
  refine (idIdx_any z A nl cl l _ w.heap.size (Hc.out _ _) (Hr.out _) hn).mono ?_
  rintro e w2 ⟨k, rfl, hat, hb⟩
  go_wp2_with fail
  go_ret
  exact ⟨k, rfl, hat, ((Below.refl _ _).alloc (Nat.le_refl _) _).trans (hb.mono (by simp))⟩
end Go.Proofs.YtckpinnnmafdgaaDoor
