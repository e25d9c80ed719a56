/- Walks: the law's sameLog; entry.Check. -/
import Derived.Test.YtefjejlpbfbpcaaDoorEnts
import Derived.Test.YtefjejlpbfbpcaaDoorComp
namespace Go.Proofs.YtefjejlpbfbpcaaDoor
open Go.RowKit
set_option maxRecDepth 100000
set_option linter.unusedVariables false
set_option linter.unusedSimpArgs false
theorem sameLog_no (b t : Int) (A : Option Addr) (n c : Nat) (b' t' : Int) (B : Option Addr) (m d : Nat) (w : World) (h : b ≠ b' ∨ (b = b' ∧ t ≠ t') ∨ (b = b' ∧ t = t' ∧ n ≠ m)) :
    Calls Tryd.prog 17 #[.agg #[.int .i64 b, .int .i64 t, .slice A n c], .agg #[.int .i64 b', .int .i64 t', .slice B m d]] w (BoolPost w false) := by
  rcases h with h | ⟨rfl, h⟩ | ⟨rfl, rfl, h⟩
  · have hd : (b == b') = false := by simpa using h
    clear h
    go_enter Tryd.func17, Tryd.ntmps17
    go_wp2_with fail
    go_ret
    exact ⟨rfl, ((Below.refl _ _).alloc (Nat.le_refl _) _).alloc (by simp) _⟩
  · have hd : (t == t') = false := by simpa using h
    have hb : (b == b) = true := by simp
    clear h
    go_enter Tryd.func17, Tryd.ntmps17
    go_wp2_with fail
    go_ret
    exact ⟨rfl, ((Below.refl _ _).alloc (Nat.le_refl _) _).alloc (by simp) _⟩
  · have ht : (t == t) = true := by simp
    have hb : (b == b) = true := by simp
    have he := fun W => entries_no A n c B m d W h
    have He := Lib.hid he
    clear he h
    go_enter Tryd.func17, Tryd.ntmps17
    go_wp2_with fail
    refine (He.out _).mono ?_
    rintro e w1 ⟨rfl, hb1⟩
    go_wp2_with fail
    go_ret
    exact ⟨rfl, (((Below.refl _ _).alloc (Nat.le_refl _) _).alloc (by simp) _).trans (hb1.mono (by simp; omega))⟩
theorem sameLog_yes (b t : Int) (A : Option Addr) (n c : Nat) (L : List Er) (B : Option Addr) (d : Nat) (L' : List Er) (w : World) {ok ok' : Nat → Prop} (hr : Rd w ok 4 A n (flat ecell L)) (hr' : Rd w ok' 4 B n (flat ecell L')) (hd : ∀ x ∈ L, Rd w T 1 x.A x.n (bs x.d)) (hd' : ∀ x ∈ L', Rd w T 1 x.A x.n (bs x.d)) (hs : L'.map en = L.map en) (hw : ∀ x ∈ L, Wt x) (hw' : ∀ x ∈ L', Wt x) (hn : n ≤ 1000000) (htab : TabW w) :
    Calls Tryd.prog 17 #[.agg #[.int .i64 b, .int .i64 t, .slice A n c], .agg #[.int .i64 b, .int .i64 t, .slice B n d]] w (BoolPost w true) := by
  have ht : (t == t) = true := by simp
  have hb : (b == b) = true := by simp
  have he := fun W (hW : Below w.heap.size w W) => entries_yes A n c L B d L' W (hr.below hW) (hr'.below hW) (fun x hx => (hd x hx).below hW) (fun x hx => (hd' x hx).below hW) hs hw hw' hn (htab.below hW (Nat.le_refl _))
  have He := Lib.hid he
  clear he hr hr' hd hd' hs hw hw' htab
  go_enter Tryd.func17, Tryd.ntmps17
  go_wp2_with fail
  have hb0 := ((Below.refl w.heap.size w).alloc (Nat.le_refl _) (.cells #[.int .i64 b, .int .i64 t, .slice A n c] 31)).alloc (by simp) (.cells #[.int .i64 b, .int .i64 t, .slice B n d] 24)
  have Hb0 := Lib.hid hb0
  clear hb0
  refine (He.out _ Hb0.out).mono ?_
  rintro e w1 ⟨rfl, hb1⟩
  go_wp2_with fail
  go_ret
  exact ⟨rfl, Hb0.out.trans (hb1.mono Hb0.out.size)⟩
theorem check_any (b t : Int) (A : Option Addr) (n c : Nat) (L : List Er) (w : World) {ok : Nat → Prop} (hr : Rd w ok 4 A n (flat ecell L)) (hw : Wel L) (hn : n ≤ 1000000) :
    Calls Tryd.prog 20 #[.agg #[.int .i64 b, .int .i64 t, .slice A n c]] w fun e w' => e = .returned (errC (if lmay b t (L.map en) then 0 else 1)) ∧ Below w.heap.size w w' := by
  have hm := fun W (hW : Below w.heap.size w W) => may_any b t A n c L W (hr.below hW) hw hn
  generalize lmay b t (L.map en) = q at hm ⊢
  have Hm := Lib.hid hm
  have Bb := Lib.hid (Bx.new w #[.int .i64 b, .int .i64 t, .slice A n c] 31 rfl)
  clear hm hr hw
  rcases q with _ | _
  · go_enter Tryd.func20, Tryd.ntmps20
    go_wp2_with fail
    refine (Hm.out _ ((Below.refl _ _).alloc (Nat.le_refl _) _)).mono ?_
    rintro e w1 ⟨rfl, hb1⟩
    have hb2 := ((Below.refl w.heap.size w).alloc (Nat.le_refl _) (.cells #[.int .i64 b, .int .i64 t, .slice A n c] 31)).trans (hb1.mono (by simp))
    have Hb2 := Lib.hid hb2
    clear hb1 hb2
    go_wp2_with fail
    go_ret
    exact ⟨rfl, Hb2.out⟩
  · go_enter Tryd.func20, Tryd.ntmps20
    go_wp2_with fail
    refine (Hm.out _ ((Below.refl _ _).alloc (Nat.le_refl _) _)).mono ?_
    rintro e w1 ⟨rfl, hb1⟩
    have hb2 := ((Below.refl w.heap.size w).alloc (Nat.le_refl _) (.cells #[.int .i64 b, .int .i64 t, .slice A n c] 31)).trans (hb1.mono (by simp))
    have Hb2 := Lib.hid hb2
    clear hb1 hb2
    go_wp2_with fail
    go_ret
    exact ⟨rfl, Hb2.out⟩
end Go.Proofs.YtefjejlpbfbpcaaDoor
