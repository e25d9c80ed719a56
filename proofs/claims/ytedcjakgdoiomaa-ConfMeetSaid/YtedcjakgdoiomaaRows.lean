/-
  No cell of these rows narrows 'for every input' (looked for: loops, veiled, ifaces, maps, wideKeys, modest, calm, conditions, laid).
  DERIVED. THE GIVEN ROWS OF THIS SEAT. 7 by the template 'for every input the law returns true; each argument reads behind the call as it read before'; 0 by the template 'total and deterministic' (their statements: YtedcjakgdoiomaaTotals.lean).
  GIVEN WITH THE SEED: the statements are not yours to turn. If you find one false, say at which input.
  Laid BY PROGRAM, IN A SANDBOX (cutbox-rows.mjs): the forced cells as the released guide's own fill.sh prints them over the translation 7e3ef4fb3785de47… (all of the seat's roots in one cut). By AI agents, Wed Nov 11 2026. No macro, syntax, notation, axiom, sorry.
-/
import Derived.Test.YtedcjakgdoiomaaChecked
import GoSem.Claim
import GoSem.ClaimJoined
import GoSem.ClaimMapViews
import Derived.JoinedTies
import Derived.KernelRfl
namespace Go.Proofs.Ytedcjakgdoiomaa
/- THE CELL 'sum', in the pinned program and in every row, IS THE sha256 OF THE DUMP (.gsa) THAT YtedcjakgdoiomaaProg.lean LOADS. Nothing in Lean hashes anything: it is a label: what it is worth is what the hold of that sum in a sandbox is worth. -/
noncomputable def Try.pinned : Pinned := { name := "ytedcjakgdoiomaa", sum := "7e3ef4fb3785de478ebc69fee56e9d974b36851a336929ac9b9914923cc9dce2", checked := Try.checked }
namespace Rows
def none {H : Type} : Left H := { results := [], args := [] }

/-- 'tollbarlaw10.ConfAgrees': WHATEVER THE INPUT: true; the input reads as it did. -/
def confAgreesSpec : ChangeSpec := { name := "confAgrees", fn := fun _ => fun
  | [d1, d2] => { results := [.lit (.bool true)], args := [d1, d2] }
  | _ => none }
def confAgreesRow : OpenClaim := { program := "ytedcjakgdoiomaa", sum := "7e3ef4fb3785de478ebc69fee56e9d974b36851a336929ac9b9914923cc9dce2", func := "tollbar/tollbarlaw10.ConfAgrees", spec := "confAgrees", recurses := true, apart := false }
def ConfAgreesSaid : Prop := confAgreesRow.holds Try.pinned (OpenSpec.ofChange confAgreesSpec)

/-- ITS FALSE NEIGHBOUR: 'it returns false'. Refute it at one input. -/
def confAgreesWrong : ChangeSpec := { name := "confAgrees", fn := fun _ => fun
  | [d1, d2] => { results := [.lit (.bool false)], args := [d1, d2] }
  | _ => none }
def ConfAgreesWrongFalsely : Prop := confAgreesRow.holds Try.pinned (OpenSpec.ofChange confAgreesWrong)

/-- 'tollbarlaw10.ConfCounts': WHATEVER THE INPUT: true; the input reads as it did. -/
def confCountsSpec : ChangeSpec := { name := "confCounts", fn := fun _ => fun
  | [d1, d2] => { results := [.lit (.bool true)], args := [d1, d2] }
  | _ => none }
def confCountsRow : OpenClaim := { program := "ytedcjakgdoiomaa", sum := "7e3ef4fb3785de478ebc69fee56e9d974b36851a336929ac9b9914923cc9dce2", func := "tollbar/tollbarlaw10.ConfCounts", spec := "confCounts", recurses := true, apart := false }
def ConfCountsSaid : Prop := confCountsRow.holds Try.pinned (OpenSpec.ofChange confCountsSpec)

/-- ITS FALSE NEIGHBOUR: 'it returns false'. Refute it at one input. -/
def confCountsWrong : ChangeSpec := { name := "confCounts", fn := fun _ => fun
  | [d1, d2] => { results := [.lit (.bool false)], args := [d1, d2] }
  | _ => none }
def ConfCountsWrongFalsely : Prop := confCountsRow.holds Try.pinned (OpenSpec.ofChange confCountsWrong)

/-- 'tollbarlaw10.ConfReached': WHATEVER THE INPUT: true; the input reads as it did. -/
def confReachedSpec : ChangeSpec := { name := "confReached", fn := fun _ => fun
  | [d1, d2] => { results := [.lit (.bool true)], args := [d1, d2] }
  | _ => none }
def confReachedRow : OpenClaim := { program := "ytedcjakgdoiomaa", sum := "7e3ef4fb3785de478ebc69fee56e9d974b36851a336929ac9b9914923cc9dce2", func := "tollbar/tollbarlaw10.ConfReached", spec := "confReached", recurses := true, apart := false }
def ConfReachedSaid : Prop := confReachedRow.holds Try.pinned (OpenSpec.ofChange confReachedSpec)

/-- ITS FALSE NEIGHBOUR: 'it returns false'. Refute it at one input. -/
def confReachedWrong : ChangeSpec := { name := "confReached", fn := fun _ => fun
  | [d1, d2] => { results := [.lit (.bool false)], args := [d1, d2] }
  | _ => none }
def ConfReachedWrongFalsely : Prop := confReachedRow.holds Try.pinned (OpenSpec.ofChange confReachedWrong)

/-- 'tollbarlaw10.ConfQuorums': WHATEVER THE INPUT: true; the input reads as it did. -/
def confQuorumsSpec : ChangeSpec := { name := "confQuorums", fn := fun _ => fun
  | [d1, d2, d3] => { results := [.lit (.bool true)], args := [d1, d2, d3] }
  | _ => none }
def confQuorumsRow : OpenClaim := { program := "ytedcjakgdoiomaa", sum := "7e3ef4fb3785de478ebc69fee56e9d974b36851a336929ac9b9914923cc9dce2", func := "tollbar/tollbarlaw10.ConfQuorums", spec := "confQuorums", recurses := true, apart := false }
def ConfQuorumsSaid : Prop := confQuorumsRow.holds Try.pinned (OpenSpec.ofChange confQuorumsSpec)

/-- ITS FALSE NEIGHBOUR: 'it returns false'. Refute it at one input. -/
def confQuorumsWrong : ChangeSpec := { name := "confQuorums", fn := fun _ => fun
  | [d1, d2, d3] => { results := [.lit (.bool false)], args := [d1, d2, d3] }
  | _ => none }
def ConfQuorumsWrongFalsely : Prop := confQuorumsRow.holds Try.pinned (OpenSpec.ofChange confQuorumsWrong)

/-- 'tollbarlaw10.ConfNears': WHATEVER THE INPUT: true; the input reads as it did. -/
def confNearsSpec : ChangeSpec := { name := "confNears", fn := fun _ => fun
  | [d1, d2] => { results := [.lit (.bool true)], args := [d1, d2] }
  | _ => none }
def confNearsRow : OpenClaim := { program := "ytedcjakgdoiomaa", sum := "7e3ef4fb3785de478ebc69fee56e9d974b36851a336929ac9b9914923cc9dce2", func := "tollbar/tollbarlaw10.ConfNears", spec := "confNears", recurses := true, apart := false }
def ConfNearsSaid : Prop := confNearsRow.holds Try.pinned (OpenSpec.ofChange confNearsSpec)

/-- ITS FALSE NEIGHBOUR: 'it returns false'. Refute it at one input. -/
def confNearsWrong : ChangeSpec := { name := "confNears", fn := fun _ => fun
  | [d1, d2] => { results := [.lit (.bool false)], args := [d1, d2] }
  | _ => none }
def ConfNearsWrongFalsely : Prop := confNearsRow.holds Try.pinned (OpenSpec.ofChange confNearsWrong)

/-- 'tollbarlaw10.ConfMeet': WHATEVER THE INPUT: true; the input reads as it did. -/
def confMeetSpec : ChangeSpec := { name := "confMeet", fn := fun _ => fun
  | [d1, d2, d3] => { results := [.lit (.bool true)], args := [d1, d2, d3] }
  | _ => none }
def confMeetRow : OpenClaim := { program := "ytedcjakgdoiomaa", sum := "7e3ef4fb3785de478ebc69fee56e9d974b36851a336929ac9b9914923cc9dce2", func := "tollbar/tollbarlaw10.ConfMeet", spec := "confMeet", inPlace := ["slices.overlaps[int]"], recurses := true, apart := false }
def ConfMeetSaid : Prop := confMeetRow.holds Try.pinned (OpenSpec.ofChange confMeetSpec)

/-- ITS FALSE NEIGHBOUR: 'it returns false'. Refute it at one input. -/
def confMeetWrong : ChangeSpec := { name := "confMeet", fn := fun _ => fun
  | [d1, d2, d3] => { results := [.lit (.bool false)], args := [d1, d2, d3] }
  | _ => none }
def ConfMeetWrongFalsely : Prop := confMeetRow.holds Try.pinned (OpenSpec.ofChange confMeetWrong)

/-- 'tollbarlaw10.ConfTurns': WHATEVER THE INPUT: true; the input reads as it did. -/
def confTurnsSpec : ChangeSpec := { name := "confTurns", fn := fun _ => fun
  | [d1, d2] => { results := [.lit (.bool true)], args := [d1, d2] }
  | _ => none }
def confTurnsRow : OpenClaim := { program := "ytedcjakgdoiomaa", sum := "7e3ef4fb3785de478ebc69fee56e9d974b36851a336929ac9b9914923cc9dce2", func := "tollbar/tollbarlaw10.ConfTurns", spec := "confTurns", inPlace := ["slices.overlaps[int]"], recurses := true, apart := false }
def ConfTurnsSaid : Prop := confTurnsRow.holds Try.pinned (OpenSpec.ofChange confTurnsSpec)

/-- ITS FALSE NEIGHBOUR: 'it returns false'. Refute it at one input. -/
def confTurnsWrong : ChangeSpec := { name := "confTurns", fn := fun _ => fun
  | [d1, d2] => { results := [.lit (.bool false)], args := [d1, d2] }
  | _ => none }
def ConfTurnsWrongFalsely : Prop := confTurnsRow.holds Try.pinned (OpenSpec.ofChange confTurnsWrong)

/- THE SECOND FORM. 'bulk': how many values and letters a reading holds, each counted each time it is reached (what is shared counts as often as it is met; a slice's spare places count too). A statement '..UptoSaid' is the law's where the arguments, and the package variables that the reading takes, are together of bulk at most 1048576: NARROWER than '..Said'. Prove '..Said' where nothing that the law and all that it calls make is longer than what came in: it says more and counts as full. Else prove '..UptoSaid'. A law counts once. -/
mutual
def uptoBulk {H : Type} : DataW H → Nat
  | .lit (.string bytes) => bytes.length + 1
  | .lit _ => 1
  | .nil => 1
  | .ptr d => uptoBulk d + 1
  | .slice elems spare => uptoBulkAll elems + uptoBulkAll spare + 1
  | .agg parts => uptoBulkAll parts + 1
  | .iface _ d => uptoBulk d + 1
  | .map entries => uptoBulkEntries entries + 1
  | .held _ => 1
def uptoBulkAll {H : Type} : List (DataW H) → Nat
  | [] => 0
  | d :: r => uptoBulk d + uptoBulkAll r
def uptoBulkEntries {H : Type} : List (Lit × DataW H) → Nat
  | [] => 0
  | x :: r => uptoBulkEntry x + uptoBulkEntries r
def uptoBulkEntry {H : Type} : Lit × DataW H → Nat
  | (.string bytes, d) => bytes.length + uptoBulk d + 1
  | (_, d) => uptoBulk d + 1
 end
def uptoSmall : (H : Type) → List (DataW H) → Bool := fun _ ds => decide (uptoBulkAll ds ≤ 1048576)
def OpenSpec.upto (s : _root_.Go.ChangeSpec) : _root_.Go.OpenSpec := { _root_.Go.OpenSpec.ofChange s with cond := some uptoSmall }

/-- 'tollbarlaw10.ConfAgrees', WHERE WHAT IT READS IS OF BULK AT MOST 1048576: true; the input reads as it did. -/
def confAgreesUptoRow : OpenClaim := { program := "ytedcjakgdoiomaa", sum := "7e3ef4fb3785de478ebc69fee56e9d974b36851a336929ac9b9914923cc9dce2", func := "tollbar/tollbarlaw10.ConfAgrees", spec := "confAgrees", recurses := true, apart := false, narrowed := true }
def ConfAgreesUptoSaid : Prop := confAgreesUptoRow.holds Try.pinned (OpenSpec.upto confAgreesSpec)

/-- 'tollbarlaw10.ConfCounts', WHERE WHAT IT READS IS OF BULK AT MOST 1048576: true; the input reads as it did. -/
def confCountsUptoRow : OpenClaim := { program := "ytedcjakgdoiomaa", sum := "7e3ef4fb3785de478ebc69fee56e9d974b36851a336929ac9b9914923cc9dce2", func := "tollbar/tollbarlaw10.ConfCounts", spec := "confCounts", recurses := true, apart := false, narrowed := true }
def ConfCountsUptoSaid : Prop := confCountsUptoRow.holds Try.pinned (OpenSpec.upto confCountsSpec)

/-- 'tollbarlaw10.ConfReached', WHERE WHAT IT READS IS OF BULK AT MOST 1048576: true; the input reads as it did. -/
def confReachedUptoRow : OpenClaim := { program := "ytedcjakgdoiomaa", sum := "7e3ef4fb3785de478ebc69fee56e9d974b36851a336929ac9b9914923cc9dce2", func := "tollbar/tollbarlaw10.ConfReached", spec := "confReached", recurses := true, apart := false, narrowed := true }
def ConfReachedUptoSaid : Prop := confReachedUptoRow.holds Try.pinned (OpenSpec.upto confReachedSpec)

/-- 'tollbarlaw10.ConfQuorums', WHERE WHAT IT READS IS OF BULK AT MOST 1048576: true; the input reads as it did. -/
def confQuorumsUptoRow : OpenClaim := { program := "ytedcjakgdoiomaa", sum := "7e3ef4fb3785de478ebc69fee56e9d974b36851a336929ac9b9914923cc9dce2", func := "tollbar/tollbarlaw10.ConfQuorums", spec := "confQuorums", recurses := true, apart := false, narrowed := true }
def ConfQuorumsUptoSaid : Prop := confQuorumsUptoRow.holds Try.pinned (OpenSpec.upto confQuorumsSpec)

/-- 'tollbarlaw10.ConfNears', WHERE WHAT IT READS IS OF BULK AT MOST 1048576: true; the input reads as it did. -/
def confNearsUptoRow : OpenClaim := { program := "ytedcjakgdoiomaa", sum := "7e3ef4fb3785de478ebc69fee56e9d974b36851a336929ac9b9914923cc9dce2", func := "tollbar/tollbarlaw10.ConfNears", spec := "confNears", recurses := true, apart := false, narrowed := true }
def ConfNearsUptoSaid : Prop := confNearsUptoRow.holds Try.pinned (OpenSpec.upto confNearsSpec)

/-- 'tollbarlaw10.ConfMeet', WHERE WHAT IT READS IS OF BULK AT MOST 1048576: true; the input reads as it did. -/
def confMeetUptoRow : OpenClaim := { program := "ytedcjakgdoiomaa", sum := "7e3ef4fb3785de478ebc69fee56e9d974b36851a336929ac9b9914923cc9dce2", func := "tollbar/tollbarlaw10.ConfMeet", spec := "confMeet", inPlace := ["slices.overlaps[int]"], recurses := true, apart := false, narrowed := true }
def ConfMeetUptoSaid : Prop := confMeetUptoRow.holds Try.pinned (OpenSpec.upto confMeetSpec)

/-- 'tollbarlaw10.ConfTurns', WHERE WHAT IT READS IS OF BULK AT MOST 1048576: true; the input reads as it did. -/
def confTurnsUptoRow : OpenClaim := { program := "ytedcjakgdoiomaa", sum := "7e3ef4fb3785de478ebc69fee56e9d974b36851a336929ac9b9914923cc9dce2", func := "tollbar/tollbarlaw10.ConfTurns", spec := "confTurns", inPlace := ["slices.overlaps[int]"], recurses := true, apart := false, narrowed := true }
def ConfTurnsUptoSaid : Prop := confTurnsUptoRow.holds Try.pinned (OpenSpec.upto confTurnsSpec)

end Rows
end Go.Proofs.Ytedcjakgdoiomaa
