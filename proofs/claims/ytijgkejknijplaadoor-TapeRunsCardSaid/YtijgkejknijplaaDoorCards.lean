/-
  DERIVED. GIVEN WITH THE SEED: THE CARDS: each row of YtijgkejknijplaaDoorRows.lean that lists a variable, with what it lists TIED to the program's text (the seventh form; the later family's looks); each row that meets fmt, with fmt's text TOLD by the authors' own Lean function (tested against real Go, not proved from fmt's source: count such statements apart). THE CARD IS WHAT COUNTS. Prove the row's statement (the work); the ties are given (YtijgkejknijplaaDoorTie.lean); close each card by the builder's one call (the guide's Derived/Test/ToyasCard.lean, 'card_holds'). Laid BY PROGRAM, IN A SANDBOX (cutbox-door.mjs). By AI agents, Wed Nov 11 2026. No macro, syntax, notation, axiom, sorry.
-/
import Derived.Test.YtijgkejknijplaaDoorRows
import GoSem.ClaimSeven
namespace Go.Proofs.YtijgkejknijplaaDoor
namespace Rows

/-- THE TIED CARD OF 'tollbarlaw04.TapeOpens'. -/
def tapeOpensCard : Claim7 := { stood := { row := tapeOpensRow, standIns := [], harness := (true, "6ba069dacbe3a8ca66f2e87de967e7f3510c8eca5561c32ea96640d5865e639f"), looks := true }, kinds := [], alts := [], laidByText := true, laidKinds := [.handle], laidTests := true, laidLooks := .later }
def TapeOpensCardSaid : Prop := Claim7.holds Tryd.pinned (.plain (OpenSpec.ofChange tapeOpensSpec)) tapeOpensCard

/-- THE TIED CARD OF 'tollbarlaw04.TapeBack'. -/
def tapeBackCard : Claim7 := { stood := { row := tapeBackRow, standIns := [], harness := (true, "6ba069dacbe3a8ca66f2e87de967e7f3510c8eca5561c32ea96640d5865e639f"), looks := true }, kinds := [], alts := [], laidByText := true, laidKinds := [.handle], laidTests := true, laidLooks := .later }
def TapeBackCardSaid : Prop := Claim7.holds Tryd.pinned (.plain (OpenSpec.ofChange tapeBackSpec)) tapeBackCard

/-- THE TIED CARD OF 'tollbarlaw04.TapeRuns'. -/
def tapeRunsCard : Claim7 := { stood := { row := tapeRunsRow, standIns := [], harness := (true, "6ba069dacbe3a8ca66f2e87de967e7f3510c8eca5561c32ea96640d5865e639f"), looks := true }, kinds := [], alts := [], laidByText := true, laidKinds := [.handle], laidTests := true, laidLooks := .later }
def TapeRunsCardSaid : Prop := Claim7.holds Tryd.pinned (.plain (OpenSpec.ofChange tapeRunsSpec)) tapeRunsCard

/-- THE TIED CARD OF 'tollbarlaw04.TapeSafe'. -/
def tapeSafeCard : Claim7 := { stood := { row := tapeSafeRow, standIns := [], harness := (true, "6ba069dacbe3a8ca66f2e87de967e7f3510c8eca5561c32ea96640d5865e639f"), looks := true }, kinds := [], alts := [], laidByText := true, laidKinds := [.handle], laidTests := true, laidLooks := .later }
def TapeSafeCardSaid : Prop := Claim7.holds Tryd.pinned (.plain (OpenSpec.ofChange tapeSafeSpec)) tapeSafeCard

/-- THE SECOND FORM's CARD OF 'tollbarlaw04.TapeOpens'. -/
def tapeOpensUptoCard : Claim7 := { stood := { row := tapeOpensUptoRow, standIns := [], harness := (true, "6ba069dacbe3a8ca66f2e87de967e7f3510c8eca5561c32ea96640d5865e639f"), looks := true }, kinds := [], alts := [], laidByText := true, laidKinds := [.handle], laidTests := true, laidLooks := .later }
def TapeOpensUptoCardSaid : Prop := Claim7.holds Tryd.pinned (.plain (OpenSpec.upto tapeOpensSpec)) tapeOpensUptoCard

/-- THE SECOND FORM's CARD OF 'tollbarlaw04.TapeBack'. -/
def tapeBackUptoCard : Claim7 := { stood := { row := tapeBackUptoRow, standIns := [], harness := (true, "6ba069dacbe3a8ca66f2e87de967e7f3510c8eca5561c32ea96640d5865e639f"), looks := true }, kinds := [], alts := [], laidByText := true, laidKinds := [.handle], laidTests := true, laidLooks := .later }
def TapeBackUptoCardSaid : Prop := Claim7.holds Tryd.pinned (.plain (OpenSpec.upto tapeBackSpec)) tapeBackUptoCard

/-- THE SECOND FORM's CARD OF 'tollbarlaw04.TapeRuns'. -/
def tapeRunsUptoCard : Claim7 := { stood := { row := tapeRunsUptoRow, standIns := [], harness := (true, "6ba069dacbe3a8ca66f2e87de967e7f3510c8eca5561c32ea96640d5865e639f"), looks := true }, kinds := [], alts := [], laidByText := true, laidKinds := [.handle], laidTests := true, laidLooks := .later }
def TapeRunsUptoCardSaid : Prop := Claim7.holds Tryd.pinned (.plain (OpenSpec.upto tapeRunsSpec)) tapeRunsUptoCard

/-- THE SECOND FORM's CARD OF 'tollbarlaw04.TapeSafe'. -/
def tapeSafeUptoCard : Claim7 := { stood := { row := tapeSafeUptoRow, standIns := [], harness := (true, "6ba069dacbe3a8ca66f2e87de967e7f3510c8eca5561c32ea96640d5865e639f"), looks := true }, kinds := [], alts := [], laidByText := true, laidKinds := [.handle], laidTests := true, laidLooks := .later }
def TapeSafeUptoCardSaid : Prop := Claim7.holds Tryd.pinned (.plain (OpenSpec.upto tapeSafeSpec)) tapeSafeUptoCard
end Rows
end Go.Proofs.YtijgkejknijplaaDoor
