/-
  DERIVED. GIVEN WITH THE SEED: THE CARDS: each row of YtodjjcnidgmkmaaDoorRows.lean that lists a variable, with what it lists TIED to the program's text (the seventh form; the later family's looks); each row that meets fmt, with fmt's text TOLD by the authors' own Lean function (tested against real Go, not proved from fmt's source: count such statements apart). THE CARD IS WHAT COUNTS. Prove the row's statement (the work); the ties are given (YtodjjcnidgmkmaaDoorTie.lean); close each card by the builder's one call (the guide's Derived/Test/ToyasCard.lean, 'card_holds'). Laid BY PROGRAM, IN A SANDBOX (cutbox-door.mjs). By AI agents, Wed Nov 11 2026. No macro, syntax, notation, axiom, sorry.
-/
import Derived.Test.YtodjjcnidgmkmaaDoorRows
import GoSem.ClaimSeven
namespace Go.Proofs.YtodjjcnidgmkmaaDoor
namespace Rows

/-- THE TIED CARD OF 'tollbarlaw14.ReadAdds'. -/
def readAddsCard : Claim7 := { stood := { row := readAddsRow, standIns := [], harness := (true, "5b0deadcffca3c099def60bfdf92184cbc3ab3d318da73dc894e9e3de3e38bed"), looks := true }, kinds := [], alts := [], laidByText := true, laidKinds := [.handle], laidTests := true, laidLooks := .later }
def ReadAddsCardSaid : Prop := Claim7.holds Tryd.pinned (.plain (OpenSpec.ofChange readAddsSpec)) readAddsCard

/-- THE TIED CARD OF 'tollbarlaw14.ReadParts'. -/
def readPartsCard : Claim7 := { stood := { row := readPartsRow, standIns := [], harness := (true, "5b0deadcffca3c099def60bfdf92184cbc3ab3d318da73dc894e9e3de3e38bed"), looks := true }, kinds := [], alts := [], laidByText := true, laidKinds := [.handle], laidTests := true, laidLooks := .later }
def ReadPartsCardSaid : Prop := Claim7.holds Tryd.pinned (.plain (OpenSpec.ofChange readPartsSpec)) readPartsCard

/-- THE SECOND FORM's CARD OF 'tollbarlaw14.ReadAdds'. -/
def readAddsUptoCard : Claim7 := { stood := { row := readAddsUptoRow, standIns := [], harness := (true, "5b0deadcffca3c099def60bfdf92184cbc3ab3d318da73dc894e9e3de3e38bed"), looks := true }, kinds := [], alts := [], laidByText := true, laidKinds := [.handle], laidTests := true, laidLooks := .later }
def ReadAddsUptoCardSaid : Prop := Claim7.holds Tryd.pinned (.plain (OpenSpec.upto readAddsSpec)) readAddsUptoCard

/-- THE SECOND FORM's CARD OF 'tollbarlaw14.ReadParts'. -/
def readPartsUptoCard : Claim7 := { stood := { row := readPartsUptoRow, standIns := [], harness := (true, "5b0deadcffca3c099def60bfdf92184cbc3ab3d318da73dc894e9e3de3e38bed"), looks := true }, kinds := [], alts := [], laidByText := true, laidKinds := [.handle], laidTests := true, laidLooks := .later }
def ReadPartsUptoCardSaid : Prop := Claim7.holds Tryd.pinned (.plain (OpenSpec.upto readPartsSpec)) readPartsUptoCard
end Rows
end Go.Proofs.YtodjjcnidgmkmaaDoor
