/- Walk of net's Items. -/
import Derived.Test.YtckpinnnmafdgaaDoorCloneI
import Derived.Laws.OwnMore
namespace Go.Proofs.YtckpinnnmafdgaaDoor
open Go.RowKit
set_option linter.unusedVariables false
set_option linter.unusedSimpArgs false
set_option maxRecDepth 100000
def withD (x : Ic) (A : Option Addr) (n c : Nat) (d : List UInt8) : Ic := { x with A := A, n := n, c := c, d := d }
theorem flat_setD (l : List Ic) (i : Nat) (x : Ic) (hx : l[i]? = some x) (A : Option Addr) (n c : Nat) (d : List UInt8) : (flat icell l).set (i * 4 + 3) (.slice A n c) = flat icell (l.set i (withD x A n c d)) := by
  induction l generalizing i with
  | nil => simp at hx
  | cons y l ih =>
    cases i with
    | zero =>
      simp at hx
      subst hx
      rfl
    | succ i =>
      have hx' : l[i]? = some x := by simpa using hx
      rw [List.set_cons_succ, flat_cons, flat_cons, ← ih i hx']
      have e : (i + 1) * 4 + 3 = (i * 4 + 3) + 4 := by omega
      rw [e]
      rfl
/-- What an item is, wherever its data lies. -/
def pl (x : Ic) : Int × Int × Int × List UInt8 := (x.id, x.fr, x.to, x.d)
def ItemsPost (W : World) (l : List Ic) (e : Ending) (w' : World) : Prop :=
  ∃ A' c' l', e = .returned (.slice A' l.length c') ∧ Rd w' (W.heap.size ≤ ·) 4 A' l.length (flat icell l') ∧ l'.map pl = l.map pl ∧ (∀ x ∈ l', Rd w' (W.heap.size ≤ ·) 1 x.A x.n (bs x.d)) ∧ Below W.heap.size W w'
structure SInv (w : World) (l : List Ic) (ga c' : Nat) (i : Nat) (lk : List Ic) (wr : World) : Prop where
  row : wr.ownsRow w.heap.size 32 4 (.slice (some ⟨ga, 0, none⟩) l.length c') l.length (flat icell lk)
  pls : lk.map pl = l.map pl
  old : ∀ x ∈ lk.drop i, Rd wr (· < w.heap.size) 1 x.A x.n (bs x.d) ∧ x.n ≤ 1048576
  new : ∀ x ∈ lk.take i, Rd wr (ga < ·) 1 x.A x.n (bs x.d)
  be : Below w.heap.size w wr
theorem SInv.len {w : World} {l : List Ic} {ga c' i : Nat} {lk : List Ic} {wr : World} (h : SInv w l ga c' i lk wr) : lk.length = l.length := by
  have := congrArg List.length h.pls
  simpa using this
theorem SInv.step {w : World} {l : List Ic} {ga c' i : Nat} {lk : List Ic} {wr w2 : World} {x : Ic} {A2 : Option Addr} {c2 : Nat} (h : SInv w l ga c' i lk wr) (hx : lk[i]? = some x) (hown : w2.ownsRow wr.heap.size 5 1 (.slice A2 x.n c2) x.n (bs x.d)) (hb : Below wr.heap.size wr w2) :
    SInv w l ga c' (i + 1) (lk.set i (withD x A2 x.n c2 x.d)) (w2.setCell ⟨ga, i * 4 + 3, none⟩ (.slice A2 x.n c2)) := by
  have hga := own_lt h.row ga rfl
  have hil := (List.getElem?_eq_some_iff.1 hx).1
  have hs := (own_below h.row hb).stored (i * 4 + 3) (.slice A2 x.n c2)
  rw [flat_setD lk i x hx A2 x.n c2 x.d] at hs
  refine ⟨hs.1, ?_, ?_, ?_, (h.be.trans (hb.mono h.be.size)).setCell (by show w.heap.size ≤ ga; omega) _⟩
  · rw [← h.pls, List.map_set]
    have e : (lk.map pl)[i]? = some (pl (withD x A2 x.n c2 x.d)) := by rw [List.getElem?_map, hx]; rfl
    refine List.ext_getElem? fun k => ?_
    rw [List.getElem?_set]
    split
    · rename_i hk
      subst hk
      have : i < (lk.map pl).length := by simpa using hil
      rw [if_pos this, e]
    · rfl
  · intro y hy
    rw [List.drop_set_of_lt (by omega)] at hy
    have hy' : y ∈ lk.drop i := by
      obtain ⟨k, hk⟩ := List.mem_iff_getElem?.1 hy
      rw [List.getElem?_drop] at hk
      refine List.mem_iff_getElem?.2 ⟨k + 1, ?_⟩
      rw [List.getElem?_drop, ← hk]
      congr 1
      omega
    have ho := h.old y hy'
    have hz := h.be.size
    exact ⟨(ho.1.below hb).setCell (by show ¬ ga < w.heap.size; omega) _, ho.2⟩
  · intro y hy
    rw [List.take_add_one] at hy
    rcases List.mem_append.1 hy with hy | hy
    · rw [List.take_set_of_le (by omega)] at hy
      exact ((h.new y hy).below hb).setCell (by show ¬ ga < ga; omega) _
    · rw [List.getElem?_set_self hil] at hy
      obtain rfl : y = withD x A2 x.n c2 x.d := by simpa using hy
      exact ((Rd.of_own hown).mono fun b hb => by show ga < b; omega).setCell (by show ¬ ga < ga; omega) _
set_option maxHeartbeats 800000 in
theorem items_any (g gm : Nat) (lim last : Int) (cnt : Nat) (f : Int → Int → Int) (A : Option Addr) (nl cl : Nat) (l : List Ic) (w : World) (hns : NS w g gm lim last cnt f A nl cl (flat icell l)) (hd : ∀ x ∈ l, Rd w T 1 x.A x.n (bs x.d) ∧ x.n ≤ 1048576) (hn : nl ≤ 1000000) :
    Calls Tryd.prog 13 #[.pointer (some ⟨g, 0, none⟩)] w (ItemsPost w l) := by
  have k2 : w.cell? ⟨g, 2, none⟩ = some (.slice A nl cl) := hns.bx.c 2
  have hr := Rd.of_own hns.own
  have hl := hr.flen icell_len (by omega)
  have hcl := cloneI_any A nl cl (flat icell l) w hr (icell_one l) hn
  have Hl := Lib.hid hl
  have Hcl := Lib.hid hcl
  have hd' : ∀ x ∈ l, Rd w (· < w.heap.size) 1 x.A x.n (bs x.d) ∧ x.n ≤ 1048576 := fun x hx => ⟨((hd x hx).1.lt (by omega)).mono fun b hb => hb.2, (hd x hx).2⟩
  have Hd := Lib.hid hd'
  clear hns hr hl hcl hd hd'
  go_enter Tryd.func13, Tryd.ntmps13
  go_wp2_with fail
  refine Hcl.out.mono ?_
  rintro e w1 ⟨A1, c1, rfl, hown, hb1⟩
  go_wp2_with fail
  rcases A1 with _ | ad
  · have h0 := (Rd.of_own hown).nil_of_none
    obtain rfl : nl = 0 := h0.1
    go_loopg [4, 14] 1 (fun m s4 s14 wr => s14 = .int .i64 0 ∧ wr = w1)
    case atStart => exact ⟨rfl, rfl⟩
    case round =>
      obtain ⟨rfl, rfl⟩ := hrel
      go_wp2_with fail
      go_ret
      have hl0 : l = [] := List.eq_nil_of_length_eq_zero Hl.out
      subst hl0
      exact ⟨none, c1, [], rfl, Rd.none_, rfl, by simp, hb1⟩
  · obtain ⟨ga, rfl⟩ : ∃ ga, ad = ⟨ga, 0, none⟩ := by
      rcases hown.2 with ⟨h', _⟩ | ⟨g', _, _, h', _⟩
      · cases h'
      · injection h' with h' _ _
        injection h' with h'
        exact ⟨g', h'⟩
    obtain rfl : l.length = nl := Hl.out
    have h0 : SInv w l ga c1 0 l w1 := ⟨hown, rfl, fun x hx => ⟨(Hd.out x hx).1.below hb1, (Hd.out x hx).2⟩, by simp, hb1⟩
    clear hown
    have H0 := Lib.hid h0
    clear h0
    go_loopg [4, 14] l.length (fun m s4 s14 wr => ∃ (i : Nat) (lk : List Ic), m = l.length - i ∧ i ≤ l.length ∧ s14 = .int .i64 i ∧ SInv w l ga c1 i lk wr)
    case atStart => exact ⟨0, l, by omega, by omega, rfl, H0.out⟩
    case round =>
      obtain ⟨i, lk, hm, hi, rfl, hv⟩ := hrel
      have Hm := Lib.hid hm
      have Hv := Lib.hid hv
      clear hm hv
      by_cases hin : i < l.length
      · have hlk := Hv.out.len
        obtain ⟨x, hx⟩ : ∃ x, lk[i]? = some x := ⟨_, List.getElem?_eq_getElem (by omega)⟩
        have kx : wr.cell? ⟨ga, i * 4 + 3, none⟩ = some (.slice x.A x.n x.c) := by
          rw [Hv.out.row.cellAt (i * 4 + 3) (by omega), flat_get icell_len hx (by omega)]
          rfl
        have kf : ∀ j, wr.frozen? ⟨ga, j, none⟩ = false := fun j => Hv.out.row.frozenAt j
        have hxd : x ∈ lk.drop i := by
          refine List.mem_iff_getElem?.2 ⟨0, ?_⟩
          rw [List.getElem?_drop]
          exact hx
        have hcl := clone_any x.A x.n x.c (bs x.d) wr (Hv.out.old x hxd).1 (bs_one _) (by have := (Hv.out.old x hxd).2; omega)
        have Hcl2 := Lib.hid hcl
        have Hx := Lib.hid hx
        have hga := own_lt Hv.out.row ga rfl
        have hinI : (i : Int) < l.length := by omega
        clear hcl hx hxd hlk
        go_wp2_with fail
        refine Hcl2.out.mono ?_
        rintro e w2 ⟨A2, c2, rfl, hown2, hb2⟩
        have hv2 := Hv.out.step Hx.out hown2 hb2
        have Hv2 := Lib.hid hv2
        have kx2 : w2.cell? ⟨ga, i * 4 + 3, none⟩ = some (.slice x.A x.n x.c) := by
          rw [hb2.cell (p := ⟨ga, i * 4 + 3, none⟩) hga.2]
          exact kx
        have kf2 : ∀ j, w2.frozen? ⟨ga, j, none⟩ = false := fun j => (own_below Hv.out.row hb2).frozenAt j
        clear hv2 hown2
        go_wp2_with fail
        go_roundg (l.length - (i + 1))
        case measure => have := Hm.out; omega
        case rel => exact ⟨i + 1, _, rfl, by omega, by go_num, Hv2.out⟩
      · obtain rfl : i = l.length := by omega
        go_wp2_with fail
        go_ret
        have hv := Hv.out
        have hlen := hv.len
        have hga := own_lt hv.row ga rfl
        refine ⟨_, c1, lk, rfl, (Rd.of_own hv.row), hv.pls, fun x hx => (hv.new x (by rw [List.take_of_length_le (by omega)]; exact hx)).mono fun b hb => by show w.heap.size ≤ b; have h1 : ga < b := hb; omega, hv.be⟩
end Go.Proofs.YtckpinnnmafdgaaDoor
