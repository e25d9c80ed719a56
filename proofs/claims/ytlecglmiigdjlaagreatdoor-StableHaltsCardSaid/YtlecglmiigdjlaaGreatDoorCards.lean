/-
  DERIVED. GIVEN WITH THE SEED: THE CARDS: each row of YtlecglmiigdjlaaGreatDoorRows.lean that lists a variable, with what it lists TIED to the program's text (the seventh form; the later family's looks); each row that meets fmt, with fmt's text TOLD by the authors' own Lean function (tested against real Go, not proved from fmt's source: count such statements apart). THE CARD IS WHAT COUNTS. Prove the row's statement (the work); the ties are given (YtlecglmiigdjlaaGreatDoorTie.lean); close each card by the builder's one call (the guide's Derived/Test/ToyasCard.lean, 'card_holds'). Laid BY PROGRAM, IN A SANDBOX (cutbox-door.mjs). By AI agents, Wed Nov 11 2026. No macro, syntax, notation, axiom, sorry.
-/
import Derived.Test.YtlecglmiigdjlaaGreatDoorRows
import GoSem.ClaimSeven
namespace Go.Proofs.YtlecglmiigdjlaaGreatDoor
namespace Rows

/-- THE TIED CARD OF 'tollbarlaw15.StableSaves'. -/
def stableSavesCard : Claim7 := { stood := { row := stableSavesRow, standIns := [], harness := (true, "caf52a1e78a7174299c12f813a9b2cc87e5e1127a2ed8b9014550a9e474cc9ac"), looks := true }, kinds := [], alts := [], laidByText := true, laidKinds := [.data, .data, .data, .handle, .sentinel, .sentinel], laidTests := true, laidLooks := .later }
def StableSavesCardSaid : Prop := Claim7.holds Tryz.pinned (.plain (OpenSpec.ofChange stableSavesSpec)) stableSavesCard

/-- THE TIED CARD OF 'tollbarlaw15.StableHalts'. -/
def stableHaltsCard : Claim7 := { stood := { row := stableHaltsRow, standIns := [], harness := (true, "caf52a1e78a7174299c12f813a9b2cc87e5e1127a2ed8b9014550a9e474cc9ac"), looks := true }, kinds := [], alts := [], laidByText := true, laidKinds := [.data, .data, .data, .handle, .sentinel, .sentinel], laidTests := true, laidLooks := .later }
def StableHaltsCardSaid : Prop := Claim7.holds Tryz.pinned (.plain (OpenSpec.ofChange stableHaltsSpec)) stableHaltsCard

/-- THE TIED CARD OF 'tollbarlaw15.StableSafe'. -/
def stableSafeCard : Claim7 := { stood := { row := stableSafeRow, standIns := [], harness := (true, "caf52a1e78a7174299c12f813a9b2cc87e5e1127a2ed8b9014550a9e474cc9ac"), looks := true }, kinds := [], alts := [], laidByText := true, laidKinds := [.data, .data, .data, .handle, .sentinel, .sentinel], laidTests := true, laidLooks := .later }
def StableSafeCardSaid : Prop := Claim7.holds Tryz.pinned (.plain (OpenSpec.ofChange stableSafeSpec)) stableSafeCard

/-- THE SECOND FORM's CARD OF 'tollbarlaw15.StableSaves'. -/
def stableSavesUptoCard : Claim7 := { stood := { row := stableSavesUptoRow, standIns := [], harness := (true, "caf52a1e78a7174299c12f813a9b2cc87e5e1127a2ed8b9014550a9e474cc9ac"), looks := true }, kinds := [], alts := [], laidByText := true, laidKinds := [.data, .data, .data, .handle, .sentinel, .sentinel], laidTests := true, laidLooks := .later }
def StableSavesUptoCardSaid : Prop := Claim7.holds Tryz.pinned (.plain (OpenSpec.upto stableSavesSpec)) stableSavesUptoCard

/-- THE SECOND FORM's CARD OF 'tollbarlaw15.StableHalts'. -/
def stableHaltsUptoCard : Claim7 := { stood := { row := stableHaltsUptoRow, standIns := [], harness := (true, "caf52a1e78a7174299c12f813a9b2cc87e5e1127a2ed8b9014550a9e474cc9ac"), looks := true }, kinds := [], alts := [], laidByText := true, laidKinds := [.data, .data, .data, .handle, .sentinel, .sentinel], laidTests := true, laidLooks := .later }
def StableHaltsUptoCardSaid : Prop := Claim7.holds Tryz.pinned (.plain (OpenSpec.upto stableHaltsSpec)) stableHaltsUptoCard

/-- THE SECOND FORM's CARD OF 'tollbarlaw15.StableSafe'. -/
def stableSafeUptoCard : Claim7 := { stood := { row := stableSafeUptoRow, standIns := [], harness := (true, "caf52a1e78a7174299c12f813a9b2cc87e5e1127a2ed8b9014550a9e474cc9ac"), looks := true }, kinds := [], alts := [], laidByText := true, laidKinds := [.data, .data, .data, .handle, .sentinel, .sentinel], laidTests := true, laidLooks := .later }
def StableSafeUptoCardSaid : Prop := Claim7.holds Tryz.pinned (.plain (OpenSpec.upto stableSafeSpec)) stableSafeUptoCard
end Rows
end Go.Proofs.YtlecglmiigdjlaaGreatDoor
