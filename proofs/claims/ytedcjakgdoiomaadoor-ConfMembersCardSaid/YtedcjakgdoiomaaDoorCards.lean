/-
  DERIVED. GIVEN WITH THE SEED: THE CARDS: each row of YtedcjakgdoiomaaDoorRows.lean that lists a variable, with what it lists TIED to the program's text (the seventh form; the later family's looks); each row that meets fmt, with fmt's text TOLD by the authors' own Lean function (tested against real Go, not proved from fmt's source: count such statements apart). THE CARD IS WHAT COUNTS. Prove the row's statement (the work); the ties are given (YtedcjakgdoiomaaDoorTie.lean); close each card by the builder's one call (the guide's Derived/Test/ToyasCard.lean, 'card_holds'). Laid BY PROGRAM, IN A SANDBOX (cutbox-door.mjs). By AI agents, Wed Nov 11 2026. No macro, syntax, notation, axiom, sorry.
-/
import Derived.Test.YtedcjakgdoiomaaDoorRows
import GoSem.ClaimSeven
namespace Go.Proofs.YtedcjakgdoiomaaDoor
namespace Rows

/-- THE TIED CARD OF 'tollbarlaw10.ConfMembers'. -/
def confMembersCard : Claim7 := { stood := { row := confMembersRow, standIns := [], harness := (true, "36c88c7a5014554a618f53ea8841fc69ae1329ea89ab27454f2c9943a5050812"), looks := true }, kinds := [], alts := [], laidByText := true, laidKinds := [.handle], laidTests := true, laidLooks := .later }
def ConfMembersCardSaid : Prop := Claim7.holds Tryd.pinned (.plain (OpenSpec.ofChange confMembersSpec)) confMembersCard

/-- THE SECOND FORM's CARD OF 'tollbarlaw10.ConfMembers'. -/
def confMembersUptoCard : Claim7 := { stood := { row := confMembersUptoRow, standIns := [], harness := (true, "36c88c7a5014554a618f53ea8841fc69ae1329ea89ab27454f2c9943a5050812"), looks := true }, kinds := [], alts := [], laidByText := true, laidKinds := [.handle], laidTests := true, laidLooks := .later }
def ConfMembersUptoCardSaid : Prop := Claim7.holds Tryd.pinned (.plain (OpenSpec.upto confMembersSpec)) confMembersUptoCard
end Rows
end Go.Proofs.YtedcjakgdoiomaaDoor
