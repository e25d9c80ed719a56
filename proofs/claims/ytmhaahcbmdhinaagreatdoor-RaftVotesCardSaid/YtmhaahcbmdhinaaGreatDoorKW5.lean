/- The document's reader: its digits.
   The document's reader: numbers up to a bound, counts.
   The document's reader: bytes, counts. (Printed by mkrdr4.py.)
   The document's reader: ReadBytes, ReadCount, Done.
   An entry off bytes, plain (cut out of lib's by mk13.py). -/
import Derived.Test.YtmhaahcbmdhinaaGreatDoorKW4
import Derived.Lib.Strings
namespace Go.Proofs.YtmhaahcbmdhinaaGreatDoor
open Go.RowKit
set_option maxRecDepth 100000
set_option linter.unusedVariables false
set_option linter.unusedSimpArgs false
def numVR (a : Nat) : Int ⊕ (Nat × Nat) → Value
  | .inl e => .tuple #[.int .u64 0, .int .i64 0, .int .i64 e]
  | .inr (u, k) => .tuple #[.int .u64 (u : Nat), .int .i64 ((a + k + 1 : Nat) : Int), .int .i64 0]
def maxU : List UInt8 := [49, 56, 52, 52, 54, 55, 52, 52, 48, 55, 51, 55, 48, 57, 53, 53, 49, 54, 49, 53]
end Go.Proofs.YtmhaahcbmdhinaaGreatDoor

namespace Go.Proofs.YtmhaahcbmdhinaaGreatDoor
open Go.RowKit
set_option maxRecDepth 100000
set_option linter.unusedVariables false
set_option linter.unusedSimpArgs false
def RdRPost (W : World) (ok : Nat → Prop) (s : RdS) (v : Value) (e : Ending) (w' : World) : Prop := ∃ A n c, e = .returned (.tuple #[.agg #[.slice A n c, .int .i64 s.2], v]) ∧ Rd w' ok 1 A n (bs s.1) ∧ n ≤ c ∧ c ≤ maxLen ∧ Below W.heap.size W w'
end Go.Proofs.YtmhaahcbmdhinaaGreatDoor

namespace Go.Proofs.YtmhaahcbmdhinaaGreatDoor
open Go.RowKit
set_option maxRecDepth 100000
set_option linter.unusedVariables false
set_option linter.unusedSimpArgs false
def RunRPost (W : World) (ok : Nat → Prop) (s : RdS) (b : List UInt8) (e : Ending) (w' : World) : Prop := ∃ A n c B m d, e = .returned (.tuple #[.agg #[.slice A n c, .int .i64 s.2], .slice B m d]) ∧ Rd w' ok 1 A n (bs s.1) ∧ Rd w' ok 1 B m (bs b) ∧ n ≤ c ∧ c ≤ maxLen ∧ m ≤ d ∧ d ≤ maxLen ∧ Below W.heap.size W w'
end Go.Proofs.YtmhaahcbmdhinaaGreatDoor

namespace Go.Proofs.YtmhaahcbmdhinaaGreatDoor
open Go.RowKit
set_option maxRecDepth 100000
set_option linter.unusedVariables false
set_option linter.unusedSimpArgs false
end Go.Proofs.YtmhaahcbmdhinaaGreatDoor

namespace Go.Proofs.YtmhaahcbmdhinaaGreatDoor
open Go.RowKit
set_option maxRecDepth 100000
set_option linter.unusedVariables false
set_option linter.unusedSimpArgs false
abbrev EnS := Nat × Nat × Nat × List UInt8
def entS (s : RdS) : RdS × EnS :=
  let a := uintS 1099511627776 s
  let b := uintS 1099511627776 a.1
  let c := uintS 2 b.1
  let d := bytesS 4096 c.1
  (d.1, (a.2, b.2, c.2, d.2))
def entD (l : List UInt8) : Option EnS :=
  if doneS (entS (l, 0)).1 = 0 ∧ 1 ≤ (entS (l, 0)).2.1 ∧ 1 ≤ (entS (l, 0)).2.2.1 then some (entS (l, 0)).2 else none
def EntPost (W : World) (ok : Nat → Prop) (er : Int → Value) : Option EnS → Ending → World → Prop
  | none, e, w' => e = .returned (.tuple #[.agg #[.int .i64 0, .int .i64 0, .int .i64 0, .slice none 0 0], er 3]) ∧ Below W.heap.size W w'
  | some x, e, w' => ∃ A n m, e = .returned (.tuple #[.agg #[.int .i64 (x.1 : Nat), .int .i64 (x.2.1 : Nat), .int .i64 (x.2.2.1 : Nat), .slice A n m], er 0]) ∧ Rd w' ok 1 A n (bs x.2.2.2) ∧ n ≤ m ∧ m ≤ maxLen ∧ Below W.heap.size W w'
theorem uintS_le (most : Nat) (s : RdS) : (uintS most s).2 ≤ most := by
  obtain ⟨⟨s', o⟩, hq⟩ : ∃ q, boundS most s = q := ⟨_, rfl⟩
  unfold uintS
  rw [hq]
  rcases o with _ | ⟨u, k⟩
  · exact Nat.zero_le _
  · exact (boundS_some hq).2.2.2.1
theorem EvW.mono {W : World} {p q : Nat} (h : EvW W p) (hq : p ≤ q) : EvW W q := by
  obtain ⟨te, pe, tr, pr, h1, h2, h3, h4⟩ := h
  exact ⟨te, pe, tr, pr, h1, h2, Nat.lt_of_lt_of_le h3 hq, Nat.lt_of_lt_of_le h4 hq⟩
theorem own_cp {w : World} {base : Nat} {e : TypeId} {size n c : Nat} {A : Option Addr} {xs : List Value} (h : w.ownsRow base e size (.slice A n c) n xs) : n ≤ c ∧ c ≤ maxLen := by
  obtain ⟨A', c', e, h1, h2⟩ := own_form h
  injection e with e1 e2 e3
  subst e3
  exact ⟨h1, h2⟩
end Go.Proofs.YtmhaahcbmdhinaaGreatDoor

