/-
  DERIVED. GIVEN WITH THE SEED: THE CARDS: each row of YtckpinnnmafdgaaDoorRows.lean that lists a variable, with what it lists TIED to the program's text (the seventh form; the later family's looks); each row that meets fmt, with fmt's text TOLD by the authors' own Lean function (tested against real Go, not proved from fmt's source: count such statements apart). THE CARD IS WHAT COUNTS. Prove the row's statement (the work); the ties are given (YtckpinnnmafdgaaDoorTie.lean); close each card by the builder's one call (the guide's Derived/Test/ToyasCard.lean, 'card_holds'). Laid BY PROGRAM, IN A SANDBOX (cutbox-door.mjs). By AI agents, Wed Nov 11 2026. No macro, syntax, notation, axiom, sorry.
-/
import Derived.Test.YtckpinnnmafdgaaDoorRows
import GoSem.ClaimSeven
namespace Go.Proofs.YtckpinnnmafdgaaDoor
namespace Rows

/-- THE TIED CARD OF 'tollbarlaw18.NetRuns'. -/
def netRunsCard : Claim7 := { stood := { row := netRunsRow, standIns := [], harness := (true, "ae83880edc202ad67eeb92c584b25622352d05924b6c175e248db2df0f92a7aa"), looks := true }, kinds := [], alts := [], laidByText := true, laidKinds := [.handle], laidTests := true, laidLooks := .later }
def NetRunsCardSaid : Prop := Claim7.holds Tryd.pinned (.plain (OpenSpec.ofChange netRunsSpec)) netRunsCard

/-- THE SECOND FORM's CARD OF 'tollbarlaw18.NetRuns'. -/
def netRunsUptoCard : Claim7 := { stood := { row := netRunsUptoRow, standIns := [], harness := (true, "ae83880edc202ad67eeb92c584b25622352d05924b6c175e248db2df0f92a7aa"), looks := true }, kinds := [], alts := [], laidByText := true, laidKinds := [.handle], laidTests := true, laidLooks := .later }
def NetRunsUptoCardSaid : Prop := Claim7.holds Tryd.pinned (.plain (OpenSpec.upto netRunsSpec)) netRunsUptoCard
end Rows
end Go.Proofs.YtckpinnnmafdgaaDoor
