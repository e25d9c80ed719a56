/- Walks: net.place, net.way, net.New, Cut. -/
import Derived.Test.YtckpinnnmafdgaaDoorWays
import Derived.Test.YtckpinnnmafdgaaDoorClone
import Derived.Deep.RegionWith
import Derived.Deep.RegionLaw
import Derived.Deep.LoopGhost
namespace Go.Proofs.YtckpinnnmafdgaaDoor
open Go.RowKit
set_option linter.unusedVariables false
set_option linter.unusedSimpArgs false
set_option maxRecDepth 100000
theorem place_yes (z : Int) (w : World) (h1 : 1 ≤ z) (h2 : z ≤ 1000) : Calls Tryd.prog 21 #[.int .i64 z] w fun e w' => e = .returned (.bool true) ∧ w = w' := by
  go_enter Tryd.func21, Tryd.ntmps21
  go_wp2_with fail
  go_ret
  exact ⟨rfl, rfl⟩
theorem way_any (a b : Int) (w : World) : Calls Tryd.prog 22 #[.int .i64 a, .int .i64 b] w fun e w' => e = .returned (.agg #[.int .i64 (min a b), .int .i64 (max a b)]) ∧ Below w.heap.size w w' := by
  rcases Int.lt_trichotomy a b with h | h | h
  · have e1 : min a b = a := by omega
    have e2 : max a b = b := by omega
    rw [e1, e2]
    clear e1 e2
    go_enter Tryd.func22, Tryd.ntmps22
    go_wp2_with fail
    all_goals
      refine bodyPost_ret (by simp [results, Tryd.results22, go_sem]; rfl) rfl ?_
      exact ⟨by first | rfl | (exfalso; omega), (Below.refl _ _).alloc (Nat.le_refl _) _⟩
  · subst h
    have e1 : min a a = a := by omega
    have e2 : max a a = a := by omega
    rw [e1, e2]
    clear e1 e2
    go_enter Tryd.func22, Tryd.ntmps22
    go_wp2_with fail
    all_goals
      refine bodyPost_ret (by simp [results, Tryd.results22, go_sem]; rfl) rfl ?_
      exact ⟨rfl, (Below.refl _ _).alloc (Nat.le_refl _) _⟩
  · have e1 : min a b = b := by omega
    have e2 : max a b = a := by omega
    rw [e1, e2]
    clear e1 e2
    go_enter Tryd.func22, Tryd.ntmps22
    go_wp2_with fail
    all_goals
      refine bodyPost_ret (by simp [results, Tryd.results22, go_sem]; rfl) rfl ?_
      exact ⟨by first | rfl | (exfalso; omega), (Below.refl _ _).alloc (Nat.le_refl _) _⟩
/-- A net: its object at g, the map of its ways at gm, its items' cells xs. -/
structure NS (W : World) (g gm : Nat) (lim last : Int) (cnt : Nat) (f : Int → Int → Int) (A : Option Addr) (nl cl : Nat) (xs : List Value) : Prop where
  bx : Bx W g #[.int .i64 lim, .int .i64 last, .slice A nl cl, .map (some gm)]
  own : W.ownsRow (g + 1) 32 4 (.slice A nl cl) nl xs
  mp : MS W gm cnt f
  gg : gm + 1 = g
section
variable {W W' : World} {g gm : Nat} {lim last : Int} {cnt : Nat} {f : Int → Int → Int} {A : Option Addr} {nl cl : Nat} {xs : List Value}
theorem NS.below (h : NS W g gm lim last cnt f A nl cl xs) (hb : Below W.heap.size W W') : NS W' g gm lim last cnt f A nl cl xs := ⟨h.bx.below hb, own_below h.own hb, h.mp.below hb, h.gg⟩
theorem NS.alloc (h : NS W g gm lim last cnt f A nl cl xs) (o : Obj) : NS (W.alloc o) g gm lim last cnt f A nl cl xs := h.below ((Below.refl _ _).alloc (Nat.le_refl _) o)
theorem NS.drew (h : NS W g gm lim last cnt f A nl cl xs) : NS W.drew g gm lim last cnt f A nl cl xs := ⟨h.bx.drew, h.own.drew, h.mp.drew, h.gg⟩
theorem NS.ne_row (h : NS W g gm lim last cnt f A nl cl xs) : ∀ b, A.map (·.block) = some b → g + 1 ≤ b := fun b hb => (own_lt h.own b hb).1
theorem NS.turned {cnt' : Nat} {f' : Int → Int → Int} (h : NS W g gm lim last cnt f A nl cl xs) (hg : W.grownBy W' (some gm)) (hm : MS W' gm cnt' f') : NS W' g gm lim last cnt' f' A nl cl xs := by
  have h1 := h.gg
  refine ⟨h.bx.grown hg (fun e => by injection e with e; omega), h.own.kept hg ?_, hm, h.gg⟩
  rcases A with _ | a
  · exact .inl rfl
  · right
    intro e
    have e' : some a.block = some gm := e
    injection e' with e'
    have := h.ne_row a.block rfl
    omega
end
theorem new_any (lim : Int) (w : World) (h1 : 1 ≤ lim) (h2 : lim ≤ 4096) : Calls Tryd.prog 4 #[.int .i64 lim] w fun e w' => e = .returned (.tuple #[.pointer (some ⟨w.heap.size + 1, 0, none⟩), .nilIface]) ∧ NS w' (w.heap.size + 1) w.heap.size lim 0 0 (fun _ _ => 0) none 0 0 [] ∧ Below w.heap.size w w' := by
  have hmm := @run_makeMap Tryd.prog
  have hns : NS ((w.alloc (.map #[] 0)).alloc (.cells #[.int .i64 lim, .int .i64 0, .slice none 0 0, .map (some w.heap.size)] 64)) (w.heap.size + 1) w.heap.size lim 0 0 (fun _ _ => 0) none 0 0 [] :=
    ⟨Bx.new _ _ _ (by simp), own_nil _ _ _ _ _ rfl, (MS.made w).alloc _, rfl⟩
  go_enter Tryd.func4, Tryd.ntmps4
  go_wp2_with fail
  go_ret2
  exact ⟨by simp, hns, ((Below.refl _ _).alloc (Nat.le_refl _) _).alloc (by simp) _⟩
def CutPost (W : World) (g gm : Nat) (lim last : Int) (cnt : Nat) (f : Int → Int → Int) (A : Option Addr) (nl cl : Nat) (xs : List Value) (e : Ending) (w' : World) : Prop :=
  e = .returned .nilIface ∧ NS w' g gm lim last cnt f A nl cl xs ∧ Below gm W w'
set_option maxHeartbeats 800000 in
theorem cut_any (g gm : Nat) (lim last : Int) (cnt : Nat) (f : Int → Int → Int) (A : Option Addr) (nl cl : Nat) (xs : List Value) (a b : Int) (off : Bool) (w : World) (hns : NS w g gm lim last cnt f A nl cl xs) (hc : cnt < 100000) (a1 : 1 ≤ a) (a2 : a ≤ 1000) (b1 : 1 ≤ b) (b2 : b ≤ 1000) :
    Calls Tryd.prog 11 #[.pointer (some ⟨g, 0, none⟩), .int .i64 a, .int .i64 b, .bool off] w (CutPost w g gm lim last (cnt + 1) (upd f (min a b) (max a b) (if off then 1 else 0)) A nl cl xs) := by
  have k3 : w.cell? ⟨g, 3, none⟩ = some (.map (some gm)) := hns.bx.c 3
  have i1 : I64 (min a b) := by unfold I64; omega
  have i2 : I64 (max a b) := by unfold I64; omega
  have hlt := hns.mp.lt
  have hgg := hns.gg
  have Hns := Lib.hid hns
  have hput := fun w2 (hb : Below w.drew.heap.size w.drew w2) => (hns.mp.drew.below hb).put (z := 1) (by omega) i1 i2 (by unfold I64; omega)
  have hdel := fun w2 (hb : Below w.drew.heap.size w.drew w2) => (hns.mp.drew.below hb).del i1 i2 0
  have Hput := Lib.hid hput
  have Hdel := Lib.hid hdel
  have Hgg := Lib.hid hgg
  have k3d : w.drew.cell? ⟨g, 3, none⟩ = some (.map (some gm)) := k3
  clear hns i1 i2 hput hdel hgg
  cases off
  · go_enter Tryd.func11, Tryd.ntmps11
    go_wp2_with fail
    refine (place_yes a _ a1 a2).mono ?_
    rintro e w' ⟨rfl, rfl⟩
    go_wp2_with fail
    refine (place_yes b _ b1 b2).mono ?_
    rintro e w' ⟨rfl, rfl⟩
    go_wp2_with fail
    go_region_with (first | (go_at_call 22; refine (way_any a b _).mono ?_; rintro e w2 ⟨rfl, hb⟩; have k3' : w2.cell? ⟨g, 3, none⟩ = some (.map (some gm)) := (Hns.out.bx.drew.below hb).c 3; obtain ⟨W', hrun, hms, hgr⟩ := Hdel.out w2 hb; unfold key2 at hrun))
    all_goals
      go_wp2_with fail
      go_ret
      have hgg := Hgg.out
      have hb' : Below w.heap.size w w2 := ((Below.refl _ _).drew).trans hb
      exact ⟨rfl, (Hns.out.below hb').turned hgr (hms.mono (Nat.le_succ _)), (hb'.mono (by omega)).grown hgr (by have := hb'.size; omega) (fun k hk => by injection hk with hk; omega)⟩
  · go_enter Tryd.func11, Tryd.ntmps11
    go_wp2_with fail
    refine (place_yes a _ a1 a2).mono ?_
    rintro e w' ⟨rfl, rfl⟩
    go_wp2_with fail
    refine (place_yes b _ b1 b2).mono ?_
    rintro e w' ⟨rfl, rfl⟩
    go_wp2_with fail
    go_region_with (first | (go_at_call 22; refine (way_any a b _).mono ?_; rintro e w2 ⟨rfl, hb⟩; have k3' : w2.cell? ⟨g, 3, none⟩ = some (.map (some gm)) := (Hns.out.bx.drew.below hb).c 3; obtain ⟨W', hrun, hms, hgr⟩ := Hput.out w2 hb; unfold key2 at hrun))
    all_goals
      go_wp2_with fail
      go_ret
      have hgg := Hgg.out
      have hb' : Below w.heap.size w w2 := ((Below.refl _ _).drew).trans hb
      exact ⟨rfl, (Hns.out.below hb').turned hgr hms, (hb'.mono (by omega)).grown hgr (by have := hb'.size; omega) (fun k hk => by injection hk with hk; omega)⟩
end Go.Proofs.YtckpinnnmafdgaaDoor
