/- Plain: a member and a message beside what has been, and what may come to pass
   Plain: a member's log as it reads; what a leader sends, and commits
   Plain: who stands; what a leader is told and asked for
   Plain: a follower hears entries
   Plain: a follower hears a text; a message is heard; a member begins again
   Plain: the group: whatever is done, its members are safe -/
import Derived.Test.YtmhaahcbmdhinaaGreatDoorZM33
import Derived.Test.YtmhaahcbmdhinaaGreatDoorZM31
import Derived.Test.YtmhaahcbmdhinaaGreatDoorZM32
namespace Go.Proofs.YtmhaahcbmdhinaaGreatDoor
set_option linter.unusedVariables false
set_option linter.unusedSimpArgs false
/-! ### members by a log -/
def cnf (c0 : List Int) (L : List En) : List Int := L.foldl (fun c e => if e.c = 2 then (confD e.d).getD c else c) c0
def maj (c : List Int) (Q : Int → Prop) : Prop := ∃ s, quor c s = true ∧ ∀ v ∈ s, v ∈ c → Q v
/-! ### a member, a message, and what has been -/
/-- What a text that is handed on tells. -/
structure Par where
 c0 : List Int
 F : List En → List UInt8
section
variable {P : Par} {M : Mems} {H H' : Hist} {i j : Int} {C : Cr} {f L : List En} {x : Ms}
end
/-! ### what may come to pass -/
section
variable {P : Par} {c0 : List Int} {H : Hist} {i T : Int} {f : List En}
end
section
variable {P : Par} {H : Hist} {i : Int} {C : Cr} {f : List En}
end
section
variable {P : Par} {H : Hist} {i : Int} {C : Cr} {f : List En}
end
/-! ### who stands; what a leader is told, and asked for -/
section
variable {P : Par} {H : Hist} {i : Int} {C : Cr} {f : List En}
end
section
variable {P : Par} {H : Hist} {i : Int} {C : Cr} {f : List En}
end
/-! ### a follower: a text is heard -/
section
variable {P : Par} {H : Hist} {i : Int} {C : Cr} {f : List En}
end
section
variable {P : Par} {n : Nat} {H : Hist} {F : Nat → List En} {g : Gs}
def Gs.again (g : Gs) (who : Nat) (span draw : Int) : Gs := { g with C := upd g.C who (Cr.new ((who : Int) + 1) span draw (g.C who).s) }
end
end Go.Proofs.YtmhaahcbmdhinaaGreatDoor
