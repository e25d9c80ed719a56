/-
  DERIVED. GIVEN WITH THE SEED: THE CARDS: each row of YtaamdocibbpnkaaDoorRows.lean that lists a variable, with what it lists TIED to the program's text (the seventh form; the later family's looks); each row that meets fmt, with fmt's text TOLD by the authors' own Lean function (tested against real Go, not proved from fmt's source: count such statements apart). THE CARD IS WHAT COUNTS. Prove the row's statement (the work); the ties are given (YtaamdocibbpnkaaDoorTie.lean); close each card by the builder's one call (the guide's Derived/Test/ToyasCard.lean, 'card_holds'). Laid BY PROGRAM, IN A SANDBOX (cutbox-door.mjs). By AI agents, Wed Nov 11 2026. No macro, syntax, notation, axiom, sorry.
-/
import Derived.Test.YtaamdocibbpnkaaDoorRows
import GoSem.ClaimSeven
namespace Go.Proofs.YtaamdocibbpnkaaDoor
namespace Rows

/-- THE TIED CARD OF 'tollbarlaw18.NetTurns'. -/
def netTurnsCard : Claim7 := { stood := { row := netTurnsRow, standIns := [], harness := (true, "7932e3fef4c74573556cdfe218c885d78a9d4c7692bea023a19c9a2f712a44cf"), looks := true }, kinds := [], alts := [], laidByText := true, laidKinds := [.handle], laidTests := true, laidLooks := .later }
def NetTurnsCardSaid : Prop := Claim7.holds Tryd.pinned (.plain (OpenSpec.ofChange netTurnsSpec)) netTurnsCard

/-- THE TIED CARD OF 'tollbarlaw18.NetKeeps'. -/
def netKeepsCard : Claim7 := { stood := { row := netKeepsRow, standIns := [], harness := (true, "7932e3fef4c74573556cdfe218c885d78a9d4c7692bea023a19c9a2f712a44cf"), looks := true }, kinds := [], alts := [], laidByText := true, laidKinds := [.handle], laidTests := true, laidLooks := .later }
def NetKeepsCardSaid : Prop := Claim7.holds Tryd.pinned (.plain (OpenSpec.ofChange netKeepsSpec)) netKeepsCard

/-- THE TIED CARD OF 'tollbarlaw18.NetRuns'. -/
def netRunsCard : Claim7 := { stood := { row := netRunsRow, standIns := [], harness := (true, "7932e3fef4c74573556cdfe218c885d78a9d4c7692bea023a19c9a2f712a44cf"), looks := true }, kinds := [], alts := [], laidByText := true, laidKinds := [.handle], laidTests := true, laidLooks := .later }
def NetRunsCardSaid : Prop := Claim7.holds Tryd.pinned (.plain (OpenSpec.ofChange netRunsSpec)) netRunsCard

/-- THE SECOND FORM's CARD OF 'tollbarlaw18.NetTurns'. -/
def netTurnsUptoCard : Claim7 := { stood := { row := netTurnsUptoRow, standIns := [], harness := (true, "7932e3fef4c74573556cdfe218c885d78a9d4c7692bea023a19c9a2f712a44cf"), looks := true }, kinds := [], alts := [], laidByText := true, laidKinds := [.handle], laidTests := true, laidLooks := .later }
def NetTurnsUptoCardSaid : Prop := Claim7.holds Tryd.pinned (.plain (OpenSpec.upto netTurnsSpec)) netTurnsUptoCard

/-- THE SECOND FORM's CARD OF 'tollbarlaw18.NetKeeps'. -/
def netKeepsUptoCard : Claim7 := { stood := { row := netKeepsUptoRow, standIns := [], harness := (true, "7932e3fef4c74573556cdfe218c885d78a9d4c7692bea023a19c9a2f712a44cf"), looks := true }, kinds := [], alts := [], laidByText := true, laidKinds := [.handle], laidTests := true, laidLooks := .later }
def NetKeepsUptoCardSaid : Prop := Claim7.holds Tryd.pinned (.plain (OpenSpec.upto netKeepsSpec)) netKeepsUptoCard

/-- THE SECOND FORM's CARD OF 'tollbarlaw18.NetRuns'. -/
def netRunsUptoCard : Claim7 := { stood := { row := netRunsUptoRow, standIns := [], harness := (true, "7932e3fef4c74573556cdfe218c885d78a9d4c7692bea023a19c9a2f712a44cf"), looks := true }, kinds := [], alts := [], laidByText := true, laidKinds := [.handle], laidTests := true, laidLooks := .later }
def NetRunsUptoCardSaid : Prop := Claim7.holds Tryd.pinned (.plain (OpenSpec.upto netRunsSpec)) netRunsUptoCard
end Rows
end Go.Proofs.YtaamdocibbpnkaaDoor
