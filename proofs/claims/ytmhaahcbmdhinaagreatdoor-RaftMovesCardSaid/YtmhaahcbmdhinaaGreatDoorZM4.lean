/- The document's reader (tollbarref01): fail, head, digits.
   The document's reader: its digits.
   The document's reader: numbers up to a bound, counts.
   The document's reader: bytes, counts
   The document's reader: ReadBytes, ReadCount, Done.
   An entry off bytes, plain (cut out of lib's by mk13.py). -/
import Derived.Test.YtmhaahcbmdhinaaGreatDoorZM3
import Derived.Lib.Strings
namespace Go.Proofs.YtmhaahcbmdhinaaGreatDoor
open Go.RowKit
set_option maxRecDepth 100000
set_option linter.unusedVariables false
set_option linter.unusedSimpArgs false
theorem uintS_le (most : Nat) (s : RdS) : (uintS most s).2 ≤ most := by
 obtain ⟨⟨s', o⟩, hq⟩ : ∃ q, boundS most s = q := ⟨_, rfl⟩
 unfold uintS
 rw [hq]
 rcases o with _ | ⟨u, k⟩
 ·exact Nat.zero_le _
 ·exact (boundS_some hq).2.2.2.1
theorem EvW.mono {W : World} {p q : Nat} (h : EvW W p) (hq : p ≤ q) : EvW W q := by
 obtain ⟨te, pe, tr, pr, h1, h2, h3, h4⟩ := h
 exact ⟨te, pe, tr, pr, h1, h2, Nat.lt_of_lt_of_le h3 hq, Nat.lt_of_lt_of_le h4 hq⟩
theorem own_cp {w : World} {base : Nat} {e : TypeId} {size n c : Nat} {A : Option Addr} {xs : List Value} (h : w.ownsRow base e size (.slice A n c) n xs) : n ≤ c ∧ c ≤ maxLen := by
 obtain ⟨A', c', e, h1, h2⟩ := own_form h
 injection e with e1 e2 e3
 subst e3
 exact ⟨h1, h2⟩
end Go.Proofs.YtmhaahcbmdhinaaGreatDoor
