/-
  DERIVED. GIVEN WITH THE SEED: THE CARDS: each row of YtbcdanegcknamaaDoorRows.lean that lists a variable, with what it lists TIED to the program's text (the seventh form; the later family's looks); each row that meets fmt, with fmt's text TOLD by the authors' own Lean function (tested against real Go, not proved from fmt's source: count such statements apart). THE CARD IS WHAT COUNTS. Prove the row's statement (the work); the ties are given (YtbcdanegcknamaaDoorTie.lean); close each card by the builder's one call (the guide's Derived/Test/ToyasCard.lean, 'card_holds'). Laid BY PROGRAM, IN A SANDBOX (cutbox-door.mjs). By AI agents, Wed Nov 11 2026. No macro, syntax, notation, axiom, sorry.
-/
import Derived.Test.YtbcdanegcknamaaDoorRows
import GoSem.ClaimSeven
namespace Go.Proofs.YtbcdanegcknamaaDoor
namespace Rows

/-- THE TIED CARD OF 'tollbarlaw02.SealMakes'. -/
def sealMakesCard : Claim7 := { stood := { row := sealMakesRow, standIns := [], harness := (true, "6d7350012bd05b3f1ca3d1d54f6e530e800b50ae762d4a88e0b468aad0ae073f"), looks := true }, kinds := [], alts := [], laidByText := true, laidKinds := [.handle], laidTests := true, laidLooks := .later }
def SealMakesCardSaid : Prop := Claim7.holds Tryd.pinned (.plain (OpenSpec.ofChange sealMakesSpec)) sealMakesCard

/-- THE TIED CARD OF 'tollbarlaw02.SealOpens'. -/
def sealOpensCard : Claim7 := { stood := { row := sealOpensRow, standIns := [], harness := (true, "6d7350012bd05b3f1ca3d1d54f6e530e800b50ae762d4a88e0b468aad0ae073f"), looks := true }, kinds := [], alts := [], laidByText := true, laidKinds := [.handle], laidTests := true, laidLooks := .later }
def SealOpensCardSaid : Prop := Claim7.holds Tryd.pinned (.plain (OpenSpec.ofChange sealOpensSpec)) sealOpensCard

/-- THE TIED CARD OF 'tollbarlaw02.SealNear'. -/
def sealNearCard : Claim7 := { stood := { row := sealNearRow, standIns := [], harness := (true, "6d7350012bd05b3f1ca3d1d54f6e530e800b50ae762d4a88e0b468aad0ae073f"), looks := true }, kinds := [], alts := [], laidByText := true, laidKinds := [.handle], laidTests := true, laidLooks := .later }
def SealNearCardSaid : Prop := Claim7.holds Tryd.pinned (.plain (OpenSpec.ofChange sealNearSpec)) sealNearCard

/-- THE SECOND FORM's CARD OF 'tollbarlaw02.SealMakes'. -/
def sealMakesUptoCard : Claim7 := { stood := { row := sealMakesUptoRow, standIns := [], harness := (true, "6d7350012bd05b3f1ca3d1d54f6e530e800b50ae762d4a88e0b468aad0ae073f"), looks := true }, kinds := [], alts := [], laidByText := true, laidKinds := [.handle], laidTests := true, laidLooks := .later }
def SealMakesUptoCardSaid : Prop := Claim7.holds Tryd.pinned (.plain (OpenSpec.upto sealMakesSpec)) sealMakesUptoCard

/-- THE SECOND FORM's CARD OF 'tollbarlaw02.SealOpens'. -/
def sealOpensUptoCard : Claim7 := { stood := { row := sealOpensUptoRow, standIns := [], harness := (true, "6d7350012bd05b3f1ca3d1d54f6e530e800b50ae762d4a88e0b468aad0ae073f"), looks := true }, kinds := [], alts := [], laidByText := true, laidKinds := [.handle], laidTests := true, laidLooks := .later }
def SealOpensUptoCardSaid : Prop := Claim7.holds Tryd.pinned (.plain (OpenSpec.upto sealOpensSpec)) sealOpensUptoCard

/-- THE SECOND FORM's CARD OF 'tollbarlaw02.SealNear'. -/
def sealNearUptoCard : Claim7 := { stood := { row := sealNearUptoRow, standIns := [], harness := (true, "6d7350012bd05b3f1ca3d1d54f6e530e800b50ae762d4a88e0b468aad0ae073f"), looks := true }, kinds := [], alts := [], laidByText := true, laidKinds := [.handle], laidTests := true, laidLooks := .later }
def SealNearUptoCardSaid : Prop := Claim7.holds Tryd.pinned (.plain (OpenSpec.upto sealNearSpec)) sealNearUptoCard
end Rows
end Go.Proofs.YtbcdanegcknamaaDoor
