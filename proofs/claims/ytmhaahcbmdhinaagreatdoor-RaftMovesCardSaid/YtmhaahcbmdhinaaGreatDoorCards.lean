/-
  DERIVED. GIVEN WITH THE SEED: THE CARDS: each row of YtmhaahcbmdhinaaGreatDoorRows.lean that lists a variable, with what it lists TIED to the program's text (the seventh form; the later family's looks); each row that meets fmt, with fmt's text TOLD by the authors' own Lean function (tested against real Go, not proved from fmt's source: count such statements apart). THE CARD IS WHAT COUNTS. Prove the row's statement (the work); the ties are given (YtmhaahcbmdhinaaGreatDoorTie.lean); close each card by the builder's one call (the guide's Derived/Test/ToyasCard.lean, 'card_holds'). Laid BY PROGRAM, IN A SANDBOX (cutbox-door.mjs). By AI agents, Wed Nov 11 2026. No macro, syntax, notation, axiom, sorry.
-/
import Derived.Test.YtmhaahcbmdhinaaGreatDoorRows
import GoSem.ClaimSeven
namespace Go.Proofs.YtmhaahcbmdhinaaGreatDoor
namespace Rows

/-- THE TIED CARD OF 'tollbarlaw13.RaftOpens'. -/
def raftOpensCard : Claim7 := { stood := { row := raftOpensRow, standIns := [], harness := (true, "2fe6f069f1e838e26b7307791bc76eab636eb9abe5a5e31169e0f2c8f32838e9"), looks := true }, kinds := [], alts := [], laidByText := true, laidKinds := [.data, .data, .data, .handle, .sentinel, .sentinel], laidTests := true, laidLooks := .later }
def RaftOpensCardSaid : Prop := Claim7.holds Tryz.pinned (.plain (OpenSpec.ofChange raftOpensSpec)) raftOpensCard

/-- THE TIED CARD OF 'tollbarlaw13.RaftAlone'. -/
def raftAloneCard : Claim7 := { stood := { row := raftAloneRow, standIns := [], harness := (true, "2fe6f069f1e838e26b7307791bc76eab636eb9abe5a5e31169e0f2c8f32838e9"), looks := true }, kinds := [], alts := [], laidByText := true, laidKinds := [.data, .data, .data, .handle, .sentinel, .sentinel], laidTests := true, laidLooks := .later }
def RaftAloneCardSaid : Prop := Claim7.holds Tryz.pinned (.plain (OpenSpec.ofChange raftAloneSpec)) raftAloneCard

/-- THE TIED CARD OF 'tollbarlaw13.RaftVotes'. -/
def raftVotesCard : Claim7 := { stood := { row := raftVotesRow, standIns := [], harness := (true, "2fe6f069f1e838e26b7307791bc76eab636eb9abe5a5e31169e0f2c8f32838e9"), looks := true }, kinds := [], alts := [], laidByText := true, laidKinds := [.data, .data, .data, .sentinel, .sentinel], laidTests := true, laidLooks := .later }
def RaftVotesCardSaid : Prop := Claim7.holds Tryz.pinned (.plain (OpenSpec.ofChange raftVotesSpec)) raftVotesCard

/-- THE TIED CARD OF 'tollbarlaw13.RaftMoves'. -/
def raftMovesCard : Claim7 := { stood := { row := raftMovesRow, standIns := [], harness := (true, "2fe6f069f1e838e26b7307791bc76eab636eb9abe5a5e31169e0f2c8f32838e9"), looks := true }, kinds := [], alts := [], laidByText := true, laidKinds := [.data, .data, .data, .sentinel, .sentinel], laidTests := true, laidLooks := .later }
def RaftMovesCardSaid : Prop := Claim7.holds Tryz.pinned (.plain (OpenSpec.ofChange raftMovesSpec)) raftMovesCard

/-- THE TIED CARD OF 'tollbarlaw13.RaftSettles'. -/
def raftSettlesCard : Claim7 := { stood := { row := raftSettlesRow, standIns := [], harness := (true, "2fe6f069f1e838e26b7307791bc76eab636eb9abe5a5e31169e0f2c8f32838e9"), looks := true }, kinds := [], alts := [], laidByText := true, laidKinds := [.data, .data, .data, .sentinel, .sentinel], laidTests := true, laidLooks := .later }
def RaftSettlesCardSaid : Prop := Claim7.holds Tryz.pinned (.plain (OpenSpec.ofChange raftSettlesSpec)) raftSettlesCard

/-- THE TIED CARD OF 'tollbarlaw13.RaftSafe'. -/
def raftSafeCard : Claim7 := { stood := { row := raftSafeRow, standIns := [], harness := (true, "2fe6f069f1e838e26b7307791bc76eab636eb9abe5a5e31169e0f2c8f32838e9"), looks := true }, kinds := [], alts := [], laidByText := true, laidKinds := [.data, .data, .data, .sentinel, .sentinel], laidTests := true, laidLooks := .later }
def RaftSafeCardSaid : Prop := Claim7.holds Tryz.pinned (.plain (OpenSpec.ofChange raftSafeSpec)) raftSafeCard

/-- THE TIED CARD OF 'tollbarlaw13.RaftAsks'. -/
def raftAsksCard : Claim7 := { stood := { row := raftAsksRow, standIns := [], harness := (true, "2fe6f069f1e838e26b7307791bc76eab636eb9abe5a5e31169e0f2c8f32838e9"), looks := true }, kinds := [], alts := [], laidByText := true, laidKinds := [.data, .data, .data, .handle, .sentinel, .sentinel], laidTests := true, laidLooks := .later }
def RaftAsksCardSaid : Prop := Claim7.holds Tryz.pinned (.plain (OpenSpec.ofChange raftAsksSpec)) raftAsksCard

/-- THE SECOND FORM's CARD OF 'tollbarlaw13.RaftOpens'. -/
def raftOpensUptoCard : Claim7 := { stood := { row := raftOpensUptoRow, standIns := [], harness := (true, "2fe6f069f1e838e26b7307791bc76eab636eb9abe5a5e31169e0f2c8f32838e9"), looks := true }, kinds := [], alts := [], laidByText := true, laidKinds := [.data, .data, .data, .handle, .sentinel, .sentinel], laidTests := true, laidLooks := .later }
def RaftOpensUptoCardSaid : Prop := Claim7.holds Tryz.pinned (.plain (OpenSpec.upto raftOpensSpec)) raftOpensUptoCard

/-- THE SECOND FORM's CARD OF 'tollbarlaw13.RaftAlone'. -/
def raftAloneUptoCard : Claim7 := { stood := { row := raftAloneUptoRow, standIns := [], harness := (true, "2fe6f069f1e838e26b7307791bc76eab636eb9abe5a5e31169e0f2c8f32838e9"), looks := true }, kinds := [], alts := [], laidByText := true, laidKinds := [.data, .data, .data, .handle, .sentinel, .sentinel], laidTests := true, laidLooks := .later }
def RaftAloneUptoCardSaid : Prop := Claim7.holds Tryz.pinned (.plain (OpenSpec.upto raftAloneSpec)) raftAloneUptoCard

/-- THE SECOND FORM's CARD OF 'tollbarlaw13.RaftVotes'. -/
def raftVotesUptoCard : Claim7 := { stood := { row := raftVotesUptoRow, standIns := [], harness := (true, "2fe6f069f1e838e26b7307791bc76eab636eb9abe5a5e31169e0f2c8f32838e9"), looks := true }, kinds := [], alts := [], laidByText := true, laidKinds := [.data, .data, .data, .sentinel, .sentinel], laidTests := true, laidLooks := .later }
def RaftVotesUptoCardSaid : Prop := Claim7.holds Tryz.pinned (.plain (OpenSpec.upto raftVotesSpec)) raftVotesUptoCard

/-- THE SECOND FORM's CARD OF 'tollbarlaw13.RaftMoves'. -/
def raftMovesUptoCard : Claim7 := { stood := { row := raftMovesUptoRow, standIns := [], harness := (true, "2fe6f069f1e838e26b7307791bc76eab636eb9abe5a5e31169e0f2c8f32838e9"), looks := true }, kinds := [], alts := [], laidByText := true, laidKinds := [.data, .data, .data, .sentinel, .sentinel], laidTests := true, laidLooks := .later }
def RaftMovesUptoCardSaid : Prop := Claim7.holds Tryz.pinned (.plain (OpenSpec.upto raftMovesSpec)) raftMovesUptoCard

/-- THE SECOND FORM's CARD OF 'tollbarlaw13.RaftSettles'. -/
def raftSettlesUptoCard : Claim7 := { stood := { row := raftSettlesUptoRow, standIns := [], harness := (true, "2fe6f069f1e838e26b7307791bc76eab636eb9abe5a5e31169e0f2c8f32838e9"), looks := true }, kinds := [], alts := [], laidByText := true, laidKinds := [.data, .data, .data, .sentinel, .sentinel], laidTests := true, laidLooks := .later }
def RaftSettlesUptoCardSaid : Prop := Claim7.holds Tryz.pinned (.plain (OpenSpec.upto raftSettlesSpec)) raftSettlesUptoCard

/-- THE SECOND FORM's CARD OF 'tollbarlaw13.RaftSafe'. -/
def raftSafeUptoCard : Claim7 := { stood := { row := raftSafeUptoRow, standIns := [], harness := (true, "2fe6f069f1e838e26b7307791bc76eab636eb9abe5a5e31169e0f2c8f32838e9"), looks := true }, kinds := [], alts := [], laidByText := true, laidKinds := [.data, .data, .data, .sentinel, .sentinel], laidTests := true, laidLooks := .later }
def RaftSafeUptoCardSaid : Prop := Claim7.holds Tryz.pinned (.plain (OpenSpec.upto raftSafeSpec)) raftSafeUptoCard

/-- THE SECOND FORM's CARD OF 'tollbarlaw13.RaftAsks'. -/
def raftAsksUptoCard : Claim7 := { stood := { row := raftAsksUptoRow, standIns := [], harness := (true, "2fe6f069f1e838e26b7307791bc76eab636eb9abe5a5e31169e0f2c8f32838e9"), looks := true }, kinds := [], alts := [], laidByText := true, laidKinds := [.data, .data, .data, .handle, .sentinel, .sentinel], laidTests := true, laidLooks := .later }
def RaftAsksUptoCardSaid : Prop := Claim7.holds Tryz.pinned (.plain (OpenSpec.upto raftAsksSpec)) raftAsksUptoCard
end Rows
end Go.Proofs.YtmhaahcbmdhinaaGreatDoor
