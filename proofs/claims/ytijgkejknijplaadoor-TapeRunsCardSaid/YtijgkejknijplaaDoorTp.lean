/- A tape in plain words. -/
import Derived.Test.YtijgkejknijplaaDoorDkL
namespace Go.Proofs.YtijgkejknijplaaDoor
set_option linter.unusedVariables false
set_option linter.unusedSimpArgs false
/-- A tape: where its area ends and begins, where the next record begins, how many there are, the error that it died of. -/
structure Tp where
  en : Nat
  fr : Nat
  p : Nat
  n : Nat
  dead : Int
def mkAt (l : List UInt8) (p : Nat) : UInt8 := l.getD p 0
def lnAt (l : List UInt8) (p : Nat) : Nat := (l.getD (p + 1) 0).toNat * 16777216 + (l.getD (p + 2) 0).toNat * 65536 + (l.getD (p + 3) 0).toNat * 256 + (l.getD (p + 4) 0).toNat
def cutAt (l : List UInt8) (p n : Nat) : List UInt8 := (l.drop p).take n
/-- The records of the bytes from p up to e: each one's bytes, where the next one begins, whether the tape halts. -/
def recsF : Nat → List UInt8 → Nat → Nat → List (List UInt8) × Nat × Bool
  | 0, _, p, _ => ([], p, false)
  | f + 1, l, p, e => if p + 5 ≤ e then (if mkAt l p = 0 then ([], p, false) else if mkAt l p ≠ 1 ∨ e < p + 5 + lnAt l p then ([], p, true) else (cutAt l (p + 5) (lnAt l p) :: (recsF f l (p + 5 + lnAt l p) e).1, (recsF f l (p + 5 + lnAt l p) e).2)) else ([], p, false)
theorem recsF_step (l : List UInt8) (p e f : Nat) : recsF (f + 1) l p e = if p + 5 ≤ e then (if mkAt l p = 0 then ([], p, false) else if mkAt l p ≠ 1 ∨ e < p + 5 + lnAt l p then ([], p, true) else (cutAt l (p + 5) (lnAt l p) :: (recsF f l (p + 5 + lnAt l p) e).1, (recsF f l (p + 5 + lnAt l p) e).2)) else ([], p, false) := rfl
theorem recsF_up (l : List UInt8) (e : Nat) : ∀ (f p : Nat), e + 1 ≤ p + f → recsF (f + 1) l p e = recsF f l p e := by
  intro f
  induction f with
  | zero =>
    intro p h
    show (if p + 5 ≤ e then _ else _) = _
    rw [if_neg (by omega)]
    rfl
  | succ f ih =>
    intro p h
    by_cases h1 : p + 5 ≤ e
    · have := ih (p + 5 + lnAt l p) (by omega)
      rw [recsF_step l p e (f + 1), recsF_step l p e f, this]
    · rw [recsF_step l p e (f + 1), recsF_step l p e f, if_neg h1, if_neg h1]
theorem recsF_more (l : List UInt8) (e p f : Nat) (h : e + 1 ≤ p + f) : ∀ k, recsF (f + k) l p e = recsF f l p e := by
  intro k
  induction k with
  | zero => rfl
  | succ k ih => rw [← ih]; exact recsF_up l e (f + k) p (by omega)
def recs (l : List UInt8) (p e : Nat) : List (List UInt8) × Nat × Bool := recsF (e + 1) l p e
theorem recs_eq (l : List UInt8) (p e f : Nat) (h : e + 1 ≤ p + f) (hf : f ≤ e + 1) : recs l p e = recsF f l p e := by
  unfold recs
  obtain ⟨k, hk⟩ : ∃ k, e + 1 = f + k := ⟨e + 1 - f, by omega⟩
  rw [hk]
  exact recsF_more l e p f h k
section
variable {l : List UInt8} {p e : Nat}
theorem recs_no (h : ¬ p + 5 ≤ e) : recs l p e = ([], p, false) := by unfold recs; rw [recsF, if_neg h]
theorem recs_end (h : mkAt l p = 0) : recs l p e = ([], p, false) := by
  by_cases h1 : p + 5 ≤ e
  · unfold recs; rw [recsF, if_pos h1, if_pos h]
  · exact recs_no h1
theorem recs_halt (h : p + 5 ≤ e) (h0 : mkAt l p ≠ 0) (h1 : mkAt l p ≠ 1 ∨ e < p + 5 + lnAt l p) : recs l p e = ([], p, true) := by unfold recs; rw [recsF, if_pos h, if_neg h0, if_pos h1]
theorem recs_one (h : p + 5 + lnAt l p ≤ e) (h1 : mkAt l p = 1) : recs l p e = (cutAt l (p + 5) (lnAt l p) :: (recs l (p + 5 + lnAt l p) e).1, (recs l (p + 5 + lnAt l p) e).2) := by
  have h0 : mkAt l p ≠ 0 := by rw [h1]; decide
  rw [recs_eq l (p + 5 + lnAt l p) e e (by omega) (by omega)]
  unfold recs
  rw [recsF, if_pos (by omega), if_neg h0, if_neg (by rw [h1]; simp; omega)]
end
def enc4 (n : Nat) : List UInt8 := [UInt8.ofNat (n / 16777216), UInt8.ofNat (n / 65536), UInt8.ofNat (n / 256), UInt8.ofNat n]
def Tp.room (t : Tp) : Int := if t.p + 5 ≤ t.en then (t.en : Int) - t.p - 5 else -1
def Tp.out (t : Tp) (b : List UInt8) : List UInt8 := enc4 b.length ++ b ++ (if t.p + 5 + b.length + 5 ≤ t.en then [0] else [])
theorem Tp.out_len (t : Tp) (b : List UInt8) : (t.out b).length = 4 + b.length + (if t.p + 5 + b.length + 5 ≤ t.en then 1 else 0) := by
  unfold Tp.out enc4
  split <;> simp <;> omega
/-- A write, and a sync. -/
def Dk.safely (D : Dk) (p : Int) (b : List UInt8) : Dk × Int := if (D.write p b).2 = 0 then (D.write p b).1.sync else D.write p b
def Tp.append (t : Tp) (D : Dk) (b : List UInt8) : Tp × Dk × Int :=
  if t.dead ≠ 0 then (t, D, t.dead) else if 1048576 < b.length then (t, D, 2) else if t.room < b.length then (t, D, 10) else
  if (D.safely (t.p + 1 : Nat) (t.out b)).2 ≠ 0 then ({ t with dead := (D.safely (t.p + 1 : Nat) (t.out b)).2 }, D.safely (t.p + 1 : Nat) (t.out b)) else
  if ((D.safely (t.p + 1 : Nat) (t.out b)).1.safely t.p [1]).2 ≠ 0 then ({ t with dead := ((D.safely (t.p + 1 : Nat) (t.out b)).1.safely t.p [1]).2 }, (D.safely (t.p + 1 : Nat) (t.out b)).1.safely t.p [1]) else
  ({ t with p := t.p + 5 + b.length, n := t.n + 1 }, ((D.safely (t.p + 1 : Nat) (t.out b)).1.safely t.p [1]).1, 0)
def Tp.reset (t : Tp) (D : Dk) : Tp × Dk × Int :=
  if t.dead ≠ 0 then (t, D, t.dead) else
  if (D.safely t.fr [0]).2 ≠ 0 then ({ t with dead := (D.safely t.fr [0]).2 }, D.safely t.fr [0]) else ({ t with p := t.fr, n := 0 }, (D.safely t.fr [0]).1, 0)
/-- Where its numbers lie, within a disk of z bytes. -/
structure Tp.Ok (t : Tp) (z : Nat) : Prop where
  fp : t.fr ≤ t.p
  pe : t.p ≤ t.en
  ez : t.en ≤ z
  n5 : t.fr + t.n * 5 ≤ t.p
end Go.Proofs.YtijgkejknijplaaDoor
