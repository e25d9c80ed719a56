/-
  No cell of these rows narrows 'for every input' (looked for: loops, veiled, ifaces, maps, wideKeys, modest, calm, conditions, laid).
  DERIVED. THE GIVEN ROWS OF THIS SEAT. 3 by the template 'for every input the law returns true; each argument reads behind the call as it read before'; 0 by the template 'total and deterministic' (their statements: YtodjjcnidgmkmaaTotals.lean).
  GIVEN WITH THE SEED: the statements are not yours to turn. If you find one false, say at which input.
  Laid BY PROGRAM, IN A SANDBOX (cutbox-rows.mjs): the forced cells as the released guide's own fill.sh prints them over the translation 0b056bc4f78fd894… (all of the seat's roots in one cut). By AI agents, Wed Nov 11 2026. No macro, syntax, notation, axiom, sorry.
-/
import Derived.Test.YtodjjcnidgmkmaaChecked
import GoSem.Claim
import GoSem.ClaimJoined
import GoSem.ClaimMapViews
import Derived.JoinedTies
import Derived.KernelRfl
namespace Go.Proofs.Ytodjjcnidgmkmaa
/- THE CELL 'sum', in the pinned program and in every row, IS THE sha256 OF THE DUMP (.gsa) THAT YtodjjcnidgmkmaaProg.lean LOADS. Nothing in Lean hashes anything: it is a label: what it is worth is what the hold of that sum in a sandbox is worth. -/
noncomputable def Try.pinned : Pinned := { name := "ytodjjcnidgmkmaa", sum := "0b056bc4f78fd894e81b49bcd9d035dcc52ecb5afe50ff9fe64571d0d2589e79", checked := Try.checked }
namespace Rows
def none {H : Type} : Left H := { results := [], args := [] }

/-- 'tollbarlaw14.ReadLater': WHATEVER THE INPUT: true; the input reads as it did. -/
def readLaterSpec : ChangeSpec := { name := "readLater", fn := fun _ => fun
  | [d1, d2, d3] => { results := [.lit (.bool true)], args := [d1, d2, d3] }
  | _ => none }
def readLaterRow : OpenClaim := { program := "ytodjjcnidgmkmaa", sum := "0b056bc4f78fd894e81b49bcd9d035dcc52ecb5afe50ff9fe64571d0d2589e79", func := "tollbar/tollbarlaw14.ReadLater", spec := "readLater", unfollowed := true, recurses := true, apart := false }
def ReadLaterSaid : Prop := readLaterRow.holds Try.pinned (OpenSpec.ofChange readLaterSpec)

/-- ITS FALSE NEIGHBOUR: 'it returns false'. Refute it at one input. -/
def readLaterWrong : ChangeSpec := { name := "readLater", fn := fun _ => fun
  | [d1, d2, d3] => { results := [.lit (.bool false)], args := [d1, d2, d3] }
  | _ => none }
def ReadLaterWrongFalsely : Prop := readLaterRow.holds Try.pinned (OpenSpec.ofChange readLaterWrong)

/-- 'tollbarlaw14.ReadOnce': WHATEVER THE INPUT: true; the input reads as it did. -/
def readOnceSpec : ChangeSpec := { name := "readOnce", fn := fun _ => fun
  | [d1, d2] => { results := [.lit (.bool true)], args := [d1, d2] }
  | _ => none }
def readOnceRow : OpenClaim := { program := "ytodjjcnidgmkmaa", sum := "0b056bc4f78fd894e81b49bcd9d035dcc52ecb5afe50ff9fe64571d0d2589e79", func := "tollbar/tollbarlaw14.ReadOnce", spec := "readOnce", unfollowed := true, recurses := true, apart := false }
def ReadOnceSaid : Prop := readOnceRow.holds Try.pinned (OpenSpec.ofChange readOnceSpec)

/-- ITS FALSE NEIGHBOUR: 'it returns false'. Refute it at one input. -/
def readOnceWrong : ChangeSpec := { name := "readOnce", fn := fun _ => fun
  | [d1, d2] => { results := [.lit (.bool false)], args := [d1, d2] }
  | _ => none }
def ReadOnceWrongFalsely : Prop := readOnceRow.holds Try.pinned (OpenSpec.ofChange readOnceWrong)

/-- 'tollbarlaw14.ReadRounds': WHATEVER THE INPUT: true; the input reads as it did. -/
def readRoundsSpec : ChangeSpec := { name := "readRounds", fn := fun _ => fun
  | [d1, d2] => { results := [.lit (.bool true)], args := [d1, d2] }
  | _ => none }
def readRoundsRow : OpenClaim := { program := "ytodjjcnidgmkmaa", sum := "0b056bc4f78fd894e81b49bcd9d035dcc52ecb5afe50ff9fe64571d0d2589e79", func := "tollbar/tollbarlaw14.ReadRounds", spec := "readRounds", unfollowed := true, recurses := true, apart := false }
def ReadRoundsSaid : Prop := readRoundsRow.holds Try.pinned (OpenSpec.ofChange readRoundsSpec)

/-- ITS FALSE NEIGHBOUR: 'it returns false'. Refute it at one input. -/
def readRoundsWrong : ChangeSpec := { name := "readRounds", fn := fun _ => fun
  | [d1, d2] => { results := [.lit (.bool false)], args := [d1, d2] }
  | _ => none }
def ReadRoundsWrongFalsely : Prop := readRoundsRow.holds Try.pinned (OpenSpec.ofChange readRoundsWrong)

/- THE SECOND FORM. 'bulk': how many values and letters a reading holds, each counted each time it is reached (what is shared counts as often as it is met; a slice's spare places count too). A statement '..UptoSaid' is the law's where the arguments, and the package variables that the reading takes, are together of bulk at most 1048576: NARROWER than '..Said'. Prove '..Said' where nothing that the law and all that it calls make is longer than what came in: it says more and counts as full. Else prove '..UptoSaid'. A law counts once. -/
mutual
def uptoBulk {H : Type} : DataW H → Nat
  | .lit (.string bytes) => bytes.length + 1
  | .lit _ => 1
  | .nil => 1
  | .ptr d => uptoBulk d + 1
  | .slice elems spare => uptoBulkAll elems + uptoBulkAll spare + 1
  | .agg parts => uptoBulkAll parts + 1
  | .iface _ d => uptoBulk d + 1
  | .map entries => uptoBulkEntries entries + 1
  | .held _ => 1
def uptoBulkAll {H : Type} : List (DataW H) → Nat
  | [] => 0
  | d :: r => uptoBulk d + uptoBulkAll r
def uptoBulkEntries {H : Type} : List (Lit × DataW H) → Nat
  | [] => 0
  | x :: r => uptoBulkEntry x + uptoBulkEntries r
def uptoBulkEntry {H : Type} : Lit × DataW H → Nat
  | (.string bytes, d) => bytes.length + uptoBulk d + 1
  | (_, d) => uptoBulk d + 1
 end
def uptoSmall : (H : Type) → List (DataW H) → Bool := fun _ ds => decide (uptoBulkAll ds ≤ 1048576)
def OpenSpec.upto (s : _root_.Go.ChangeSpec) : _root_.Go.OpenSpec := { _root_.Go.OpenSpec.ofChange s with cond := some uptoSmall }

/-- 'tollbarlaw14.ReadLater', WHERE WHAT IT READS IS OF BULK AT MOST 1048576: true; the input reads as it did. -/
def readLaterUptoRow : OpenClaim := { program := "ytodjjcnidgmkmaa", sum := "0b056bc4f78fd894e81b49bcd9d035dcc52ecb5afe50ff9fe64571d0d2589e79", func := "tollbar/tollbarlaw14.ReadLater", spec := "readLater", unfollowed := true, recurses := true, apart := false, narrowed := true }
def ReadLaterUptoSaid : Prop := readLaterUptoRow.holds Try.pinned (OpenSpec.upto readLaterSpec)

/-- 'tollbarlaw14.ReadOnce', WHERE WHAT IT READS IS OF BULK AT MOST 1048576: true; the input reads as it did. -/
def readOnceUptoRow : OpenClaim := { program := "ytodjjcnidgmkmaa", sum := "0b056bc4f78fd894e81b49bcd9d035dcc52ecb5afe50ff9fe64571d0d2589e79", func := "tollbar/tollbarlaw14.ReadOnce", spec := "readOnce", unfollowed := true, recurses := true, apart := false, narrowed := true }
def ReadOnceUptoSaid : Prop := readOnceUptoRow.holds Try.pinned (OpenSpec.upto readOnceSpec)

/-- 'tollbarlaw14.ReadRounds', WHERE WHAT IT READS IS OF BULK AT MOST 1048576: true; the input reads as it did. -/
def readRoundsUptoRow : OpenClaim := { program := "ytodjjcnidgmkmaa", sum := "0b056bc4f78fd894e81b49bcd9d035dcc52ecb5afe50ff9fe64571d0d2589e79", func := "tollbar/tollbarlaw14.ReadRounds", spec := "readRounds", unfollowed := true, recurses := true, apart := false, narrowed := true }
def ReadRoundsUptoSaid : Prop := readRoundsUptoRow.holds Try.pinned (OpenSpec.upto readRoundsSpec)

end Rows
end Go.Proofs.Ytodjjcnidgmkmaa
