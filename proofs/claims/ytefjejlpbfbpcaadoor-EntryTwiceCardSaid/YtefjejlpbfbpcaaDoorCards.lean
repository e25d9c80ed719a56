/-
  DERIVED. GIVEN WITH THE SEED: THE CARDS: each row of YtefjejlpbfbpcaaDoorRows.lean that lists a variable, with what it lists TIED to the program's text (the seventh form; the later family's looks); each row that meets fmt, with fmt's text TOLD by the authors' own Lean function (tested against real Go, not proved from fmt's source: count such statements apart). THE CARD IS WHAT COUNTS. Prove the row's statement (the work); the ties are given (YtefjejlpbfbpcaaDoorTie.lean); close each card by the builder's one call (the guide's Derived/Test/ToyasCard.lean, 'card_holds'). Laid BY PROGRAM, IN A SANDBOX (cutbox-door.mjs). By AI agents, Wed Nov 11 2026. No macro, syntax, notation, axiom, sorry.
-/
import Derived.Test.YtefjejlpbfbpcaaDoorRows
import GoSem.ClaimSeven
namespace Go.Proofs.YtefjejlpbfbpcaaDoor
namespace Rows

/-- THE TIED CARD OF 'tollbarlaw09.EntryTwice'. -/
def entryTwiceCard : Claim7 := { stood := { row := entryTwiceRow, standIns := [], harness := (true, "f4299b432616bb94852667fec92f9d6c6d9752924aba055e40d60f4b51719da4"), looks := true }, kinds := [], alts := [], laidByText := true, laidKinds := [.data, .data, .data], laidTests := true, laidLooks := .later }
def EntryTwiceCardSaid : Prop := Claim7.holds Tryd.pinned (.plain (OpenSpec.ofChange entryTwiceSpec)) entryTwiceCard

/-- THE TIED CARD OF 'tollbarlaw09.EntryFroms'. -/
def entryFromsCard : Claim7 := { stood := { row := entryFromsRow, standIns := [], harness := (true, "f4299b432616bb94852667fec92f9d6c6d9752924aba055e40d60f4b51719da4"), looks := true }, kinds := [], alts := [], laidByText := true, laidKinds := [.data, .data, .data], laidTests := true, laidLooks := .later }
def EntryFromsCardSaid : Prop := Claim7.holds Tryd.pinned (.plain (OpenSpec.ofChange entryFromsSpec)) entryFromsCard

/-- THE TIED CARD OF 'tollbarlaw09.EntryOne'. -/
def entryOneCard : Claim7 := { stood := { row := entryOneRow, standIns := [], harness := (true, "f4299b432616bb94852667fec92f9d6c6d9752924aba055e40d60f4b51719da4"), looks := true }, kinds := [], alts := [], laidByText := true, laidKinds := [.data, .data, .data], laidTests := true, laidLooks := .later }
def EntryOneCardSaid : Prop := Claim7.holds Tryd.pinned (.plain (OpenSpec.ofChange entryOneSpec)) entryOneCard

/-- THE TIED CARD OF 'tollbarlaw09.EntryCompacts'. -/
def entryCompactsCard : Claim7 := { stood := { row := entryCompactsRow, standIns := [], harness := (true, "f4299b432616bb94852667fec92f9d6c6d9752924aba055e40d60f4b51719da4"), looks := true }, kinds := [], alts := [], laidByText := true, laidKinds := [.data, .data, .data, .handle], laidTests := true, laidLooks := .later }
def EntryCompactsCardSaid : Prop := Claim7.holds Tryd.pinned (.plain (OpenSpec.ofChange entryCompactsSpec)) entryCompactsCard

/-- THE TIED CARD OF 'tollbarlaw09.EntryLogs'. -/
def entryLogsCard : Claim7 := { stood := { row := entryLogsRow, standIns := [], harness := (true, "f4299b432616bb94852667fec92f9d6c6d9752924aba055e40d60f4b51719da4"), looks := true }, kinds := [], alts := [], laidByText := true, laidKinds := [.data, .data, .data, .handle], laidTests := true, laidLooks := .later }
def EntryLogsCardSaid : Prop := Claim7.holds Tryd.pinned (.plain (OpenSpec.ofChange entryLogsSpec)) entryLogsCard

/-- THE SECOND FORM's CARD OF 'tollbarlaw09.EntryTwice'. -/
def entryTwiceUptoCard : Claim7 := { stood := { row := entryTwiceUptoRow, standIns := [], harness := (true, "f4299b432616bb94852667fec92f9d6c6d9752924aba055e40d60f4b51719da4"), looks := true }, kinds := [], alts := [], laidByText := true, laidKinds := [.data, .data, .data], laidTests := true, laidLooks := .later }
def EntryTwiceUptoCardSaid : Prop := Claim7.holds Tryd.pinned (.plain (OpenSpec.upto entryTwiceSpec)) entryTwiceUptoCard

/-- THE SECOND FORM's CARD OF 'tollbarlaw09.EntryFroms'. -/
def entryFromsUptoCard : Claim7 := { stood := { row := entryFromsUptoRow, standIns := [], harness := (true, "f4299b432616bb94852667fec92f9d6c6d9752924aba055e40d60f4b51719da4"), looks := true }, kinds := [], alts := [], laidByText := true, laidKinds := [.data, .data, .data], laidTests := true, laidLooks := .later }
def EntryFromsUptoCardSaid : Prop := Claim7.holds Tryd.pinned (.plain (OpenSpec.upto entryFromsSpec)) entryFromsUptoCard

/-- THE SECOND FORM's CARD OF 'tollbarlaw09.EntryOne'. -/
def entryOneUptoCard : Claim7 := { stood := { row := entryOneUptoRow, standIns := [], harness := (true, "f4299b432616bb94852667fec92f9d6c6d9752924aba055e40d60f4b51719da4"), looks := true }, kinds := [], alts := [], laidByText := true, laidKinds := [.data, .data, .data], laidTests := true, laidLooks := .later }
def EntryOneUptoCardSaid : Prop := Claim7.holds Tryd.pinned (.plain (OpenSpec.upto entryOneSpec)) entryOneUptoCard

/-- THE SECOND FORM's CARD OF 'tollbarlaw09.EntryCompacts'. -/
def entryCompactsUptoCard : Claim7 := { stood := { row := entryCompactsUptoRow, standIns := [], harness := (true, "f4299b432616bb94852667fec92f9d6c6d9752924aba055e40d60f4b51719da4"), looks := true }, kinds := [], alts := [], laidByText := true, laidKinds := [.data, .data, .data, .handle], laidTests := true, laidLooks := .later }
def EntryCompactsUptoCardSaid : Prop := Claim7.holds Tryd.pinned (.plain (OpenSpec.upto entryCompactsSpec)) entryCompactsUptoCard

/-- THE SECOND FORM's CARD OF 'tollbarlaw09.EntryLogs'. -/
def entryLogsUptoCard : Claim7 := { stood := { row := entryLogsUptoRow, standIns := [], harness := (true, "f4299b432616bb94852667fec92f9d6c6d9752924aba055e40d60f4b51719da4"), looks := true }, kinds := [], alts := [], laidByText := true, laidKinds := [.data, .data, .data, .handle], laidTests := true, laidLooks := .later }
def EntryLogsUptoCardSaid : Prop := Claim7.holds Tryd.pinned (.plain (OpenSpec.upto entryLogsSpec)) entryLogsUptoCard
end Rows
end Go.Proofs.YtefjejlpbfbpcaaDoor
