/- Cut and a Put on a way that is cut, with all that stays told. -/
import Derived.Test.YtckpinnnmafdgaaDoorNilN
namespace Go.Proofs.YtckpinnnmafdgaaDoor
open Go.RowKit
set_option linter.unusedVariables false
set_option linter.unusedSimpArgs false
set_option maxRecDepth 100000
def CutTwo (W : World) (g gm : Nat) (lim last : Int) (cnt : Nat) (f : Int → Int → Int) (A : Option Addr) (nl cl : Nat) (xs : List Value) (e : Ending) (w' : World) : Prop :=
  e = .returned .nilIface ∧ NS w' g gm lim last cnt f A nl cl xs ∧ Below gm W w' ∧ ∀ k, k < W.heap.size → k ≠ gm → w'.heap[k]? = W.heap[k]?
def PutNo2 (W : World) (g gm : Nat) (lim last : Int) (cnt : Nat) (f : Int → Int → Int) (A : Option Addr) (nl cl : Nat) (xs : List Value) (e : Ending) (w' : World) : Prop :=
  e = .returned (.tuple #[.int .i64 0, .nilIface]) ∧ Below W.heap.size W w'
set_option maxHeartbeats 800000 in
theorem cut_two (g gm : Nat) (lim last : Int) (cnt : Nat) (f : Int → Int → Int) (A : Option Addr) (nl cl : Nat) (xs : List Value) (a b : Int) (off : Bool) (w : World) (hns : NS w g gm lim last cnt f A nl cl xs) (hc : cnt < 100000) (a1 : 1 ≤ a) (a2 : a ≤ 1000) (b1 : 1 ≤ b) (b2 : b ≤ 1000) :
    Calls Tryd.prog 11 #[.pointer (some ⟨g, 0, none⟩), .int .i64 a, .int .i64 b, .bool off] w (CutTwo w g gm lim last (cnt + 1) (upd f (min a b) (max a b) (if off then 1 else 0)) A nl cl xs) := by
  have k3 : w.cell? ⟨g, 3, none⟩ = some (.map (some gm)) := hns.bx.c 3
  have i1 : I64 (min a b) := by unfold I64; omega
  have i2 : I64 (max a b) := by unfold I64; omega
  have hlt := hns.mp.lt
  have hgg := hns.gg
  have Hns := Lib.hid hns
  have hput := fun w2 (hb : Below w.drew.heap.size w.drew w2) => (hns.mp.drew.below hb).put (z := 1) (by omega) i1 i2 (by unfold I64; omega)
  have hdel := fun w2 (hb : Below w.drew.heap.size w.drew w2) => (hns.mp.drew.below hb).del i1 i2 0
  have Hput := Lib.hid hput
  have Hdel := Lib.hid hdel
  have Hgg := Lib.hid hgg
  have k3d : w.drew.cell? ⟨g, 3, none⟩ = some (.map (some gm)) := k3
  clear hns i1 i2 hput hdel hgg
  cases off
  · go_enter Tryd.func11, Tryd.ntmps11
    go_wp2_with fail
    refine (place_yes a _ a1 a2).mono ?_
    rintro e w' ⟨rfl, rfl⟩
    go_wp2_with fail
    refine (place_yes b _ b1 b2).mono ?_
    rintro e w' ⟨rfl, rfl⟩
    go_wp2_with fail
    go_region_with (first | (go_at_call 22; refine (way_any a b _).mono ?_; rintro e w2 ⟨rfl, hb⟩; have k3' : w2.cell? ⟨g, 3, none⟩ = some (.map (some gm)) := (Hns.out.bx.drew.below hb).c 3; obtain ⟨W', hrun, hms, hgr⟩ := Hdel.out w2 hb; unfold key2 at hrun))
    all_goals
      go_wp2_with fail
      go_ret
      have hgg := Hgg.out
      have hb' : Below w.heap.size w w2 := ((Below.refl _ _).drew).trans hb
      exact ⟨rfl, (Hns.out.below hb').turned hgr (hms.mono (Nat.le_succ _)), (hb'.mono (by omega)).grown hgr (by have := hb'.size; omega) (fun k hk => by injection hk with hk; omega), fun k hk hkm => (hgr.block k (by have := hb'.size; omega) (fun e => hkm (Option.some.inj e))).trans (hb'.block k hk)⟩
  · go_enter Tryd.func11, Tryd.ntmps11
    go_wp2_with fail
    refine (place_yes a _ a1 a2).mono ?_
    rintro e w' ⟨rfl, rfl⟩
    go_wp2_with fail
    refine (place_yes b _ b1 b2).mono ?_
    rintro e w' ⟨rfl, rfl⟩
    go_wp2_with fail
    go_region_with (first | (go_at_call 22; refine (way_any a b _).mono ?_; rintro e w2 ⟨rfl, hb⟩; have k3' : w2.cell? ⟨g, 3, none⟩ = some (.map (some gm)) := (Hns.out.bx.drew.below hb).c 3; obtain ⟨W', hrun, hms, hgr⟩ := Hput.out w2 hb; unfold key2 at hrun))
    all_goals
      go_wp2_with fail
      go_ret
      have hgg := Hgg.out
      have hb' : Below w.heap.size w w2 := ((Below.refl _ _).drew).trans hb
      exact ⟨rfl, (Hns.out.below hb').turned hgr hms, (hb'.mono (by omega)).grown hgr (by have := hb'.size; omega) (fun k hk => by injection hk with hk; omega), fun k hk hkm => (hgr.block k (by have := hb'.size; omega) (fun e => hkm (Option.some.inj e))).trans (hb'.block k hk)⟩
set_option maxHeartbeats 800000 in
theorem put_no2 (g gm : Nat) (lim last : Int) (cnt : Nat) (f : Int → Int → Int) (A : Option Addr) (nl cl : Nat) (xs : List Value) (a b : Int) (Ad : Option Addr) (nd cd : Nat) (w : World) (hns : NS w g gm lim last cnt f A nl cl xs) (a1 : 1 ≤ a) (a2 : a ≤ 1000) (b1 : 1 ≤ b) (b2 : b ≤ 1000) (hd : (nd : Int) ≤ 1048576) (hf : 0 < f (min a b) (max a b)) :
    Calls Tryd.prog 5 #[.pointer (some ⟨g, 0, none⟩), .int .i64 a, .int .i64 b, .slice Ad nd cd] w (PutNo2 w g gm lim last cnt f A nl cl xs) := by
  have k3 : w.cell? ⟨g, 3, none⟩ = some (.map (some gm)) := hns.bx.c 3
  have i1 : I64 (min a b) := by unfold I64; omega
  have i2 : I64 (max a b) := by unfold I64; omega
  have hlt := hns.mp.lt
  have Hns := Lib.hid hns
  have hlook := fun w2 (hb : Below w.drew.heap.size w.drew w2) => (hns.mp.drew.below hb).look i1 i2
  have Hlook := Lib.hid hlook
  generalize f (min a b) (max a b) = z at hf Hlook
  have k3d : w.drew.cell? ⟨g, 3, none⟩ = some (.map (some gm)) := k3
  clear hns i1 i2 hlook
  go_enter Tryd.func5, Tryd.ntmps5
  go_wp2_with fail
  refine (place_yes a _ a1 a2).mono ?_
  rintro e w' ⟨rfl, rfl⟩
  go_wp2_with fail
  refine (place_yes b _ b1 b2).mono ?_
  rintro e w' ⟨rfl, rfl⟩
  go_wp2_with fail
  go_region_with (first | (go_at_call 22; refine (way_any a b _).mono ?_; rintro e w2 ⟨rfl, hb⟩; have k3' : w2.cell? ⟨g, 3, none⟩ = some (.map (some gm)) := (Hns.out.bx.drew.below hb).c 3; have hrun := Hlook.out w2 hb; unfold key2 at hrun))
  all_goals
    go_wp2_with fail
    go_ret2
    have hb' : Below w.heap.size w w2 := ((Below.refl _ _).drew).trans hb
    exact ⟨rfl, hb'⟩
end Go.Proofs.YtckpinnnmafdgaaDoor
