/-
  DERIVED. GIVEN WITH THE SEED: THE CARDS: each row of YtefhkhocbcnbcaaDoorRows.lean that lists a variable, with what it lists TIED to the program's text (the seventh form; the later family's looks); each row that meets fmt, with fmt's text TOLD by the authors' own Lean function (tested against real Go, not proved from fmt's source: count such statements apart). THE CARD IS WHAT COUNTS. Prove the row's statement (the work); the ties are given (YtefhkhocbcnbcaaDoorTie.lean); close each card by the builder's one call (the guide's Derived/Test/ToyasCard.lean, 'card_holds'). Laid BY PROGRAM, IN A SANDBOX (cutbox-door.mjs). By AI agents, Wed Nov 11 2026. No macro, syntax, notation, axiom, sorry.
-/
import Derived.Test.YtefhkhocbcnbcaaDoorRows
import GoSem.ClaimSeven
namespace Go.Proofs.YtefhkhocbcnbcaaDoor
namespace Rows

/-- THE TIED CARD OF 'tollbarlaw03.DiskAlone'. -/
def diskAloneCard : Claim7 := { stood := { row := diskAloneRow, standIns := [], harness := (true, "ef2dc86362e094c9dec0acaf1a1e08c00a91dcfa3a0c934a1af1dc0aa240593f"), looks := true }, kinds := [], alts := [], laidByText := true, laidKinds := [.handle], laidTests := true, laidLooks := .later }
def DiskAloneCardSaid : Prop := Claim7.holds Tryd.pinned (.plain (OpenSpec.ofChange diskAloneSpec)) diskAloneCard

/-- THE TIED CARD OF 'tollbarlaw03.DiskPower'. -/
def diskPowerCard : Claim7 := { stood := { row := diskPowerRow, standIns := [], harness := (true, "ef2dc86362e094c9dec0acaf1a1e08c00a91dcfa3a0c934a1af1dc0aa240593f"), looks := true }, kinds := [], alts := [], laidByText := true, laidKinds := [.handle], laidTests := true, laidLooks := .later }
def DiskPowerCardSaid : Prop := Claim7.holds Tryd.pinned (.plain (OpenSpec.ofChange diskPowerSpec)) diskPowerCard

/-- THE TIED CARD OF 'tollbarlaw03.DiskRuns'. -/
def diskRunsCard : Claim7 := { stood := { row := diskRunsRow, standIns := [], harness := (true, "ef2dc86362e094c9dec0acaf1a1e08c00a91dcfa3a0c934a1af1dc0aa240593f"), looks := true }, kinds := [], alts := [], laidByText := true, laidKinds := [.handle], laidTests := true, laidLooks := .later }
def DiskRunsCardSaid : Prop := Claim7.holds Tryd.pinned (.plain (OpenSpec.ofChange diskRunsSpec)) diskRunsCard

/-- THE SECOND FORM's CARD OF 'tollbarlaw03.DiskAlone'. -/
def diskAloneUptoCard : Claim7 := { stood := { row := diskAloneUptoRow, standIns := [], harness := (true, "ef2dc86362e094c9dec0acaf1a1e08c00a91dcfa3a0c934a1af1dc0aa240593f"), looks := true }, kinds := [], alts := [], laidByText := true, laidKinds := [.handle], laidTests := true, laidLooks := .later }
def DiskAloneUptoCardSaid : Prop := Claim7.holds Tryd.pinned (.plain (OpenSpec.upto diskAloneSpec)) diskAloneUptoCard

/-- THE SECOND FORM's CARD OF 'tollbarlaw03.DiskPower'. -/
def diskPowerUptoCard : Claim7 := { stood := { row := diskPowerUptoRow, standIns := [], harness := (true, "ef2dc86362e094c9dec0acaf1a1e08c00a91dcfa3a0c934a1af1dc0aa240593f"), looks := true }, kinds := [], alts := [], laidByText := true, laidKinds := [.handle], laidTests := true, laidLooks := .later }
def DiskPowerUptoCardSaid : Prop := Claim7.holds Tryd.pinned (.plain (OpenSpec.upto diskPowerSpec)) diskPowerUptoCard

/-- THE SECOND FORM's CARD OF 'tollbarlaw03.DiskRuns'. -/
def diskRunsUptoCard : Claim7 := { stood := { row := diskRunsUptoRow, standIns := [], harness := (true, "ef2dc86362e094c9dec0acaf1a1e08c00a91dcfa3a0c934a1af1dc0aa240593f"), looks := true }, kinds := [], alts := [], laidByText := true, laidKinds := [.handle], laidTests := true, laidLooks := .later }
def DiskRunsUptoCardSaid : Prop := Claim7.holds Tryd.pinned (.plain (OpenSpec.upto diskRunsSpec)) diskRunsUptoCard
end Rows
end Go.Proofs.YtefhkhocbcnbcaaDoor
