/- The net behind a turned bit. -/
import Derived.Test.YtckpinnnmafdgaaDoorTurn
namespace Go.Proofs.YtckpinnnmafdgaaDoor
open Go.RowKit
set_option linter.unusedVariables false
set_option linter.unusedSimpArgs false
set_option maxRecDepth 100000
def setD (y : Ic) (d : List UInt8) : Ic := { y with d := d }
theorem flat_setd (l : List Ic) (j : Nat) (y : Ic) (hy : l[j]? = some y) (d : List UInt8) : flat icell (l.set j (setD y d)) = flat icell l := by
  induction l generalizing j with
  | nil => simp at hy
  | cons x l ih =>
    cases j with
    | zero =>
      simp at hy
      subst hy
      rfl
    | succ j =>
      have hy' : l[j]? = some y := by simpa using hy
      rw [List.set_cons_succ, flat_cons, flat_cons, ih j hy']
theorem NI.turned {W : World} {g gm : Nat} {lim last : Int} {cnt : Nat} {f : Int → Int → Int} {A : Option Addr} {nl cl : Nat} {l : List Ic} (h : NI W g gm lim last cnt f A nl cl l) {j i gd : Nat} {y : Ic} (hy : l[j]? = some y) (hA : y.A = some ⟨gd, 0, none⟩) (c : UInt8) :
    NI (W.setCell ⟨gd, i, none⟩ (.int .u8 (c.toNat : Int))) g gm lim last cnt f A nl cl (l.set j (setD y (y.d.set i c))) := by
  have hym := List.mem_of_getElem? hy
  have hjl := (List.getElem?_eq_some_iff.1 hy).1
  have hd := h.dt y hym
  rw [hA] at hd
  have hs := hd.1.stored i (.int .u8 (c.toNat : Int))
  have hgg := h.ns.gg
  have hgd := own_lt hd.1 gd rfl
  have hbm : y.A.map (·.block) = some gd := by rw [hA]; rfl
  have hAne : A.map (·.block) ≠ some gd := h.sp y hym gd hbm
  refine ⟨⟨h.ns.bx.grown hs.2 (fun e => by injection e with e; omega), ?_, h.ns.mp.grown hs.2 (fun e => by injection e with e; omega), hgg⟩, ?_, ?_, ?_⟩
  · rw [flat_setd l j y hy]
    refine h.ns.own.kept hs.2 ?_
    rcases A with _ | a
    · exact .inl rfl
    · exact .inr hAne
  · intro x hx
    obtain ⟨k, hk⟩ := List.mem_iff_getElem?.1 hx
    rw [List.getElem?_set] at hk
    split at hk
    · rename_i hjk
      subst hjk
      obtain rfl : setD y (y.d.set i c) = x := by simpa using hk
      refine ⟨?_, hd.2⟩
      have e : bs (y.d.set i c) = (bs y.d).set i (.int .u8 (c.toNat : Int)) := by unfold bs; rw [List.map_set]
      show World.ownsRow _ _ _ _ (.slice y.A y.n y.c) _ (bs (y.d.set i c))
      rw [hA, e]
      exact hs.1
    · rename_i hjk
      have hx' := h.dt x (List.mem_of_getElem? hk)
      refine ⟨hx'.1.kept hs.2 ?_, hx'.2⟩
      obtain ⟨hkl, hkx⟩ := List.getElem?_eq_some_iff.1 hk
      obtain ⟨_, hjy⟩ := List.getElem?_eq_some_iff.1 hy
      have hne : x.A.map (·.block) ≠ some gd := by
        intro e
        rcases Nat.lt_trichotomy j k with hlt | he | hlt
        · have := List.pairwise_iff_getElem.1 h.ds j k hjl hkl hlt gd (by rw [hjy]; exact hbm)
          rw [hkx] at this
          exact this e
        · exact hjk he
        · have := List.pairwise_iff_getElem.1 h.ds k j hkl hjl hlt gd (by rw [hkx]; exact e)
          rw [hjy] at this
          exact this hbm
      rcases hxA : x.A with _ | a
      · exact .inl rfl
      · right
        rw [hxA] at hne
        exact hne
  · intro x hx
    rcases List.mem_or_eq_of_mem_set hx with hx | rfl
    · exact h.sp x hx
    · exact h.sp y hym
  · have e : ∀ (m : List Ic), m.Pairwise (fun x y : Ic => ∀ b, x.A.map (·.block) = some b → y.A.map (·.block) ≠ some b) ↔ (m.map (·.A)).Pairwise (fun x y => ∀ b, x.map (·.block) = some b → y.map (·.block) ≠ some b) := fun m => by rw [List.pairwise_map]
    rw [e, List.map_set]
    have e2 : (l.map (·.A)).set j (setD y (y.d.set i c)).A = l.map (·.A) := by
      refine List.ext_getElem? fun k => ?_
      rw [List.getElem?_set]
      split
      · rename_i hk
        subst hk
        have : j < (l.map (·.A)).length := by simpa using hjl
        rw [if_pos this, List.getElem?_map, hy]
        rfl
      · rfl
    rw [e2, ← e]
    exact h.ds
end Go.Proofs.YtckpinnnmafdgaaDoor
