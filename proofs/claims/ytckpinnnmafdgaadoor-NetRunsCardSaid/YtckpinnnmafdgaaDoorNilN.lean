/- Calls at a nil net; New where the limit is none; Cut and Put that are refused. -/
import Derived.Test.YtckpinnnmafdgaaDoorPutBad
namespace Go.Proofs.YtckpinnnmafdgaaDoor
open Go.RowKit
set_option maxRecDepth 100000
set_option linter.unusedVariables false
set_option linter.unusedSimpArgs false
def NilN (W : World) (v : Value) (e : Ending) (w' : World) : Prop := e = .returned v ∧ Below W.heap.size W w'
theorem new_bad (lim : Int) (w : World) (h : lim < 1 ∨ 4096 < lim) : Calls Tryd.prog 4 #[.int .i64 lim] w (NilN w (.tuple #[.pointer none, errK 1])) := by
  rcases h with h | h
  · go_enter Tryd.func4, Tryd.ntmps4
    go_wp2_with fail
    go_ret2
    exact ⟨rfl, Below.refl _ _⟩
  · have h1 : ¬ lim < 1 := by omega
    go_enter Tryd.func4, Tryd.ntmps4
    go_wp2_with fail
    go_ret2
    exact ⟨rfl, Below.refl _ _⟩
theorem put_nil (a b : Int) (v : Value) (w : World) : Calls Tryd.prog 5 #[.pointer none, .int .i64 a, .int .i64 b, v] w (NilN w (.tuple #[.int .i64 0, errK 1])) := by
  go_enter Tryd.func5, Tryd.ntmps5
  go_wp2_with fail
  go_ret2
  exact ⟨rfl, Below.refl _ _⟩
theorem at_nil (z : Int) (w : World) : Calls Tryd.prog 33 #[.pointer none, .int .i64 z] w (NilN w (.int .i64 (-1))) := by
  go_enter Tryd.func33, Tryd.ntmps33
  go_wp2_with fail
  go_ret
  exact ⟨rfl, (Below.refl _ _).alloc (Nat.le_refl _) _⟩
theorem find_nil (z : Int) (w : World) : Calls Tryd.prog 24 #[.pointer none, .int .i64 z] w (NilN w (.tuple #[.int .i64 0, errK 1])) := by
  have h := at_nil z w
  go_enter Tryd.func24, Tryd.ntmps24
  go_wp2_with fail
  refine h.mono ?_
  rintro e w1 ⟨rfl, hb⟩
  go_wp2_with fail
  go_ret2
  exact ⟨rfl, hb⟩
theorem take_nil (z : Int) (w : World) : Calls Tryd.prog 6 #[.pointer none, .int .i64 z] w (NilN w (.tuple #[.agg #[.int .i64 0, .int .i64 0, .int .i64 0, .slice none 0 0], errK 1])) := by
  have hf := fun ob => find_nil z (w.alloc ob)
  have Hf := Lib.hid hf
  clear hf
  go_enter Tryd.func6, Tryd.ntmps6
  go_wp2_with fail
  refine (Hf.out _).mono ?_
  rintro e w2 ⟨rfl, hb⟩
  have XR := (Bx.new w #[.int .i64 0, .int .i64 0, .int .i64 0, .slice none 0 0] 32 rfl).below hb
  obtain ⟨r0, r1, r2, r3, f0, f1, f2, f3⟩ := XR.c4
  unfold errK
  go_wp2_with fail
  refine bodyPost_ret (by simp [results, Tryd.results6, go_sem, r0, r1, r2, r3]; rfl) rfl ?_
  refine ⟨rfl, ?_⟩
  have hb0 := ((Below.refl w.heap.size w).alloc (Nat.le_refl _) (.cells #[.int .i64 0, .int .i64 0, .int .i64 0, .slice none 0 0] 32)).trans (hb.mono (by simp))
  exact (((hb0.setCell (Nat.le_refl _) _).setCell (Nat.le_refl _) _).setCell (Nat.le_refl _) _).setCell (Nat.le_refl _) _
theorem copy_nil (z : Int) (w : World) : Calls Tryd.prog 7 #[.pointer none, .int .i64 z] w (NilN w (.tuple #[.int .i64 0, errK 1])) := by
  have h := find_nil z w
  go_enter Tryd.func7, Tryd.ntmps7
  go_wp2_with fail
  refine h.mono ?_
  rintro e w1 ⟨rfl, hb⟩
  unfold errK
  go_wp2_with fail
  go_ret2
  exact ⟨rfl, hb⟩
theorem turn_nil (z bit : Int) (w : World) : Calls Tryd.prog 10 #[.pointer none, .int .i64 z, .int .i64 bit] w (NilN w (errK 1)) := by
  have h := find_nil z w
  go_enter Tryd.func10, Tryd.ntmps10
  go_wp2_with fail
  refine h.mono ?_
  rintro e w1 ⟨rfl, hb⟩
  unfold errK
  go_wp2_with fail
  go_ret
  exact ⟨rfl, hb⟩
theorem first_nil (z : Int) (w : World) : Calls Tryd.prog 8 #[.pointer none, .int .i64 z] w (NilN w (.tuple #[.int .i64 0, errK 1])) := by
  go_enter Tryd.func8, Tryd.ntmps8
  go_wp2_with fail
  go_ret2
  exact ⟨rfl, (Below.refl _ _).alloc (Nat.le_refl _) _⟩
theorem cut_nil (a b : Int) (off : Bool) (w : World) : Calls Tryd.prog 11 #[.pointer none, .int .i64 a, .int .i64 b, .bool off] w (NilN w (errK 1)) := by
  go_enter Tryd.func11, Tryd.ntmps11
  go_wp2_with fail
  go_ret
  exact ⟨rfl, Below.refl _ _⟩
theorem len_nil (w : World) : Calls Tryd.prog 12 #[.pointer none] w (NilN w (.int .i64 0)) := by
  go_enter Tryd.func12, Tryd.ntmps12
  go_wp2_with fail
  go_ret
  exact ⟨rfl, Below.refl _ _⟩
theorem items_nil (w : World) : Calls Tryd.prog 13 #[.pointer none] w (NilN w (.slice none 0 0)) := by
  go_enter Tryd.func13, Tryd.ntmps13
  go_wp2_with fail
  go_ret
  exact ⟨rfl, Below.refl _ _⟩
/-- A way that is none is not cut. -/
theorem cut_bad (g : Nat) (a b : Int) (off : Bool) (w : World) (h : okP a = false ∨ (okP a = true ∧ okP b = false)) :
    Calls Tryd.prog 11 #[.pointer (some ⟨g, 0, none⟩), .int .i64 a, .int .i64 b, .bool off] w (NilN w (errK 1)) := by
  have ha := fun W => place_any a W
  have hb := fun W => place_any b W
  generalize okP a = qa at ha h
  generalize okP b = qb at hb h
  have Ha := Lib.hid ha
  have Hb := Lib.hid hb
  clear ha hb
  rcases h with rfl | ⟨rfl, rfl⟩
  · go_enter Tryd.func11, Tryd.ntmps11
    go_wp2_with fail
    refine (Ha.out _).mono ?_
    rintro e w1 ⟨rfl, rfl⟩
    go_wp2_with fail
    go_ret
    exact ⟨rfl, Below.refl _ _⟩
  · go_enter Tryd.func11, Tryd.ntmps11
    go_wp2_with fail
    refine (Ha.out _).mono ?_
    rintro e w1 ⟨rfl, rfl⟩
    go_wp2_with fail
    refine (Hb.out _).mono ?_
    rintro e w1 ⟨rfl, rfl⟩
    go_wp2_with fail
    go_ret
    exact ⟨rfl, Below.refl _ _⟩
/-- The first one on its way to somebody. -/
def FirstPost (W : World) (z : Int) (l : List Ic) (e : Ending) (w' : World) : Prop :=
  ((∃ (i : Nat) (x : Ic), e = .returned (.tuple #[.int .i64 x.id, .nilIface]) ∧ l[i]? = some x ∧ byTo z x = true ∧ ∀ y ∈ l.take i, byTo z y = false) ∨ (e = .returned (.tuple #[.int .i64 0, errK 8]) ∧ ∀ y ∈ l, byTo z y = false)) ∧ Below W.heap.size W w'
theorem first_any (g gm : Nat) (lim last : Int) (cnt : Nat) (f : Int → Int → Int) (A : Option Addr) (nl cl : Nat) (l : List Ic) (z : Int) (w : World) (hns : NS w g gm lim last cnt f A nl cl (flat icell l)) (hn : nl ≤ 1000000) :
    Calls Tryd.prog 8 #[.pointer (some ⟨g, 0, none⟩), .int .i64 z] w (FirstPost w z l) := by
  have k2 : ∀ o, (w.alloc o).cell? ⟨g, 2, none⟩ = some (.slice A nl cl) := fun o => (hns.alloc o).bx.c 2
  have hr := fun o => Rd.of_own (hns.alloc o).own
  have Hr := Lib.hid hr
  have Hns := Lib.hid hns
  have hc := cell_new w
  have Hc := Lib.hid hc
  clear hns hr hc
  go_enter Tryd.func8, Tryd.ntmps8
  go_wp2_with fail
  refine (toIdx_any z A nl cl l _ w.heap.size (Hc.out _ _) (Hr.out _) hn).mono ?_
  rintro e w2 ⟨k, rfl, hat, hb⟩
  have hbw := ((Below.refl w.heap.size w).alloc (Nat.le_refl _) (.cells #[.int .i64 z] 3)).trans (hb.mono (by simp))
  have Hbw := Lib.hid hbw
  rcases hat with ⟨i, x, rfl, h1, h2, h3⟩ | ⟨rfl, h1⟩
  · have hns2 := Hns.out.below hbw
    have q2 : w2.cell? ⟨g, 2, none⟩ = some (.slice A nl cl) := hns2.bx.c 2
    have hll := (Rd.of_own hns2.own).flen icell_len (by omega)
    have hil : i < nl := by have := (List.getElem?_eq_some_iff.1 h1).1; omega
    obtain ⟨b, o, y, rfl, _, hbl, hy, hc0, hc1, hc2, hc3⟩ := ic_cells (Rd.of_own hns2.own) hil
    rw [h1] at hy
    obtain rfl : x = y := by simpa using hy
    have H1 := Lib.hid (And.intro h1 (And.intro h2 h3))
    have hi : ¬ ((i : Int) < 0) := by omega
    have hiI : (i : Int) < nl := by omega
    clear h1 h2 h3 hns2 hll hy hb hbw k2 Hr
    go_wp2_with fail
    go_ret2
    exact ⟨.inl ⟨i, x, rfl, H1.out.1, H1.out.2.1, H1.out.2.2⟩, Hbw.out⟩
  · have H1 := Lib.hid h1
    clear h1
    go_wp2_with fail
    go_ret2
    exact ⟨.inr ⟨rfl, H1.out⟩, Hbw.out⟩
/-- Where there is no room, nothing is put. -/
def PutFull (W : World) (g gm : Nat) (lim last : Int) (cnt : Nat) (f : Int → Int → Int) (A : Option Addr) (nl cl : Nat) (xs : List Value) (e : Ending) (w' : World) : Prop :=
  e = .returned (.tuple #[.int .i64 0, errK 10]) ∧ Below W.heap.size W w'
set_option maxHeartbeats 1600000 in
theorem put_full (g gm : Nat) (lim last : Int) (cnt : Nat) (f : Int → Int → Int) (A : Option Addr) (nl cl : Nat) (xs : List Value) (a b : Int) (Ad : Option Addr) (nd cd : Nat) (w : World) (hns : NS w g gm lim last cnt f A nl cl xs) (a1 : 1 ≤ a) (a2 : a ≤ 1000) (b1 : 1 ≤ b) (b2 : b ≤ 1000) (hd : (nd : Int) ≤ 1048576) (hf : f (min a b) (max a b) = 0)
    (hnl : lim ≤ (nl : Int)) :
    Calls Tryd.prog 5 #[.pointer (some ⟨g, 0, none⟩), .int .i64 a, .int .i64 b, .slice Ad nd cd] w (PutFull w g gm lim last cnt f A nl cl xs) := by
  have k3 : w.cell? ⟨g, 3, none⟩ = some (.map (some gm)) := hns.bx.c 3
  have i1 : I64 (min a b) := by unfold I64; omega
  have i2 : I64 (max a b) := by unfold I64; omega
  have hlt := hns.mp.lt
  have Hns := Lib.hid hns
  have hlook := fun w2 (hb : Below w.drew.heap.size w.drew w2) => (hns.mp.drew.below hb).look i1 i2
  rw [hf] at hlook
  have Hlook := Lib.hid hlook
  have k3d : w.drew.cell? ⟨g, 3, none⟩ = some (.map (some gm)) := k3
  clear hns i1 i2 hlook hf
  go_enter Tryd.func5, Tryd.ntmps5
  go_wp2_with fail
  refine (place_yes a _ a1 a2).mono ?_
  rintro e w' ⟨rfl, rfl⟩
  go_wp2_with fail
  refine (place_yes b _ b1 b2).mono ?_
  rintro e w' ⟨rfl, rfl⟩
  go_upto_region 5 with (fail)
  go_cut [29] (fun s29 W => s29 = .bool false ∧ Below w.heap.size w W)
  case first =>
    go_region_with (first | (go_at_call 22; refine (way_any a b _).mono ?_; rintro e w2 ⟨rfl, hb⟩; have k3' : w2.cell? ⟨g, 3, none⟩ = some (.map (some gm)) := (Hns.out.bx.drew.below hb).c 3; have hrun := Hlook.out w2 hb; unfold key2 at hrun))
    all_goals
      go_wp2_with fail
      go_meet
      case rel => exact ⟨rfl, ((Below.refl _ _).drew).trans hb⟩
  case rest =>
    obtain ⟨rfl, hb1⟩ := hcut
    have hn1 := Hns.out.below hb1
    have k0 : wc.cell? ⟨g, 0, none⟩ = some (.int .i64 lim) := hn1.bx.c 0
    have k2 : wc.cell? ⟨g, 2, none⟩ = some (.slice A nl cl) := hn1.bx.c 2
    have Hn1 := Lib.hid hn1
    have Hb1 := Lib.hid hb1
    clear hn1 k3 k3d
    obtain ⟨wq, rfl⟩ : ∃ wq, wq = wc := ⟨_, rfl⟩
    go_upto_region 7 with (fail)
    go_cut [39] (fun s39 W => s39 = .bool true ∧ Below wq.heap.size wq W)
    case first =>
      go_region
      all_goals
        go_wp2_with fail
        go_meet
        case rel => exact ⟨by simp <;> omega, (Below.refl _ _).drew⟩
    case rest =>
      obtain ⟨rfl, hb2⟩ := hcut
      have hb3 := Hb1.out.trans (hb2.mono Hb1.out.size)
      go_wp2_with fail
      go_ret2
      exact ⟨rfl, hb3⟩
end Go.Proofs.YtckpinnnmafdgaaDoor
