/- Plain law of logs of entries: no program in sight. -/
import Derived.Test.YtefjejlpbfbpcaaDoorEnt
namespace Go.Proofs.YtefjejlpbfbpcaaDoor
set_option linter.unusedVariables false
set_option linter.unusedSimpArgs false
/-- An entry's numbers and bytes. -/
structure En where
  a : Int
  b : Int
  c : Int
  d : List UInt8
def en (x : Er) : En := ⟨x.a, x.b, x.c, x.d⟩
/-- Whether an entry can stand at i behind an index and a term. -/
def okE (ix tm : Int) (i : Nat) (e : En) : Bool := decide (1 ≤ e.a) && decide (e.a - i - 1 = ix) && decide (e.a ≤ 1099511627776) && decide (tm ≤ e.b) && decide (1 ≤ e.b) && decide (e.b ≤ 1099511627776) && decide (0 ≤ e.c) && decide (e.c ≤ 2) && decide (e.d.length ≤ 4096)
def rgt (ix : Int) : Int → Nat → List En → Bool
  | _, _, [] => true
  | tm, i, e :: l => okE ix tm i e && rgt ix e.b (i + 1) l
def lmay (b t : Int) (l : List En) : Bool := (decide (b = 0) && decide (t = 0) || decide (1 ≤ b) && decide (b ≤ 1099511627776) && decide (1 ≤ t) && decide (t ≤ 1099511627776)) && decide (l.length ≤ 4096) && rgt b t 0 l
/-- The last entry's index and term. -/
def lstA (b : Int) (l : List En) : Int := (l.getLast?.map (·.a)).getD b
def lstB (t : Int) (l : List En) : Int := (l.getLast?.map (·.b)).getD t
theorem okE_iff {ix tm : Int} {i : Nat} {e : En} : okE ix tm i e = true ↔ 1 ≤ e.a ∧ e.a - i - 1 = ix ∧ e.a ≤ 1099511627776 ∧ tm ≤ e.b ∧ 1 ≤ e.b ∧ e.b ≤ 1099511627776 ∧ 0 ≤ e.c ∧ e.c ≤ 2 ∧ e.d.length ≤ 4096 := by
  unfold okE
  simp only [Bool.and_eq_true, decide_eq_true_eq, and_assoc]
theorem rgt_step {ix tm : Int} {i : Nat} {l : List En} {e : En} (h : l[i]? = some e) : rgt ix tm i (l.drop i) = (okE ix tm i e && rgt ix e.b (i + 1) (l.drop (i + 1))) := by
  obtain ⟨hi, he⟩ := List.getElem?_eq_some_iff.1 h
  rw [List.drop_eq_getElem_cons hi, he]
  rfl
theorem lstA_len {b : Int} {l : List En} (h : 0 < l.length) : ∃ e, l[l.length - 1]? = some e ∧ lstA b l = e.a ∧ ∀ t, lstB t l = e.b := by
  have := List.getLast?_eq_getElem? (l := l)
  rw [List.getElem?_eq_getElem (by omega)] at this
  exact ⟨_, List.getElem?_eq_getElem (by omega), by unfold lstA; rw [this]; rfl, fun t => by unfold lstB; rw [this]; rfl⟩
end Go.Proofs.YtefjejlpbfbpcaaDoor
