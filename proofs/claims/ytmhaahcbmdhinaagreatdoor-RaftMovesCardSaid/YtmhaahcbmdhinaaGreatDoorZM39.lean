/- Walk: laid of the law.
   The listed variables: three tables of the library's, and (in some rows) errors.errorType: what the rows' lists give a walk, and a world that meets them.
   The listed variables of the stable laws: three tables, errors.errorType, and strconv's two errors.
   The listed variables where errors.errorType is not among them: three tables, and strconv's two errors. -/
import Derived.Test.YtmhaahcbmdhinaaGreatDoorZM33
import Derived.Test.YtmhaahcbmdhinaaGreatDoorRows
import Derived.Test.YtmhaahcbmdhinaaGreatDoorZM2
import Derived.Deep.DeepLaidRun
import Derived.Stop.LaidErr
import Derived.LaidHandle
import Derived.Test.YtmhaahcbmdhinaaGreatDoorZM3
namespace Go.Proofs.YtmhaahcbmdhinaaGreatDoor
open Go.RowKit
set_option maxRecDepth 100000
set_option linter.unusedVariables false
set_option linter.unusedSimpArgs false
end Go.Proofs.YtmhaahcbmdhinaaGreatDoor
namespace Go.Proofs.YtmhaahcbmdhinaaGreatDoor
open Go.ChangeShapes Go.WideShapes Go.RowKit
set_option maxRecDepth 100000
set_option linter.unusedVariables false
abbrev L3 : List (String × DataW Unit) := [("math/bits.deBruijn32tab", Rows.laid_math_bits_deBruijn32tab), ("math/bits.deBruijn64tab", Rows.laid_math_bits_deBruijn64tab), ("internal/strconv.uint64pow10", Rows.laid_internal_strconv_uint64pow10)]
abbrev L4 : List (String × DataW Unit) := [("math/bits.deBruijn32tab", Rows.laid_math_bits_deBruijn32tab), ("math/bits.deBruijn64tab", Rows.laid_math_bits_deBruijn64tab), ("internal/strconv.uint64pow10", Rows.laid_internal_strconv_uint64pow10), ("errors.errorType", Rows.laid_errors_errorType)]
def litsOf : DataW Unit → Array Value
 | .agg l => (l.map fun
  | .lit (.int k z) => Value.int k z
  | _ => undef).toArray
 | _ => #[]
abbrev L5 : List (String × DataW Unit) := [("math/bits.deBruijn32tab", Rows.laid_math_bits_deBruijn32tab), ("math/bits.deBruijn64tab", Rows.laid_math_bits_deBruijn64tab), ("internal/strconv.uint64pow10", Rows.laid_internal_strconv_uint64pow10), ("strconv.ErrRange", Rows.laid_strconv_ErrRange), ("strconv.ErrSyntax", Rows.laid_strconv_ErrSyntax)]
theorem iface_head {P : Program} {n nm : String} {d : DataW Unit} {r : List (String × DataW Unit)} {W : World} {g : Nat} {ti : TypeId} {ms : Array (String × TypeId)} (h : laidMet P ((n, .iface nm d) :: r) W)
  (hg : P.globalNamed n = some g) (ht : (P.globals[g]?).map (·.type) = some ti) (hi : P.underlying ti = some (.interface ms)) : ∃ u v, W.cell? ⟨g, 0, none⟩ = some (.iface u v) ∧ g < W.heap.size := by
 obtain ⟨ps, ⟨g0, t0, cs0, f0, p0, q0, hg0, ht0, hv0, hd0, _, e0⟩, _, hrows⟩ := h
 obtain rfl := Option.some.inj (hg.symm.trans hg0)
 obtain rfl := Option.some.inj (ht.symm.trans ht0)
 obtain ⟨l0⟩ := cs0
 obtain ⟨_, u, v, e, _⟩ := iface_of_trod hi hd0
 have e' : l0 = [.iface u v] := e
 subst e'
 have hc : W.cell? ⟨g, 0, none⟩ = some (.iface u v) := by simpa using World.var?_cell hg0 hv0 0
 exact ⟨u, v, hc, World.block_lt_of_cell? W _ hc⟩
abbrev rangeS : ByteArray := { data := #[118, 97, 108, 117, 101, 32, 111, 117, 116, 32, 111, 102, 32, 114, 97, 110, 103, 101] }
abbrev syntaxS : ByteArray := { data := #[105, 110, 118, 97, 108, 105, 100, 32, 115, 121, 110, 116, 97, 120] }
noncomputable def lowS : Nat := (World.holding Tryz.prog default ⟨#[], #[], []⟩).heap.size
noncomputable def laidWorldS (os : Os) : World :=
 let w0 := World.holding Tryz.prog os ⟨#[.cells #[.string rangeS] 368, .cells #[.string syntaxS] 368], #[], []⟩
 { w0 with heap := (((((w0.heap.modify 0 fun
   | .cells _ t frozen => .cells #[.iface 240 (.agg #[.pointer (some ⟨6, 33, none⟩)])] t frozen
   | o => o).modify 2 fun
   | .cells _ t frozen => .cells (litsOf Rows.laid_math_bits_deBruijn32tab) t frozen
   | o => o).modify 3 fun
   | .cells _ t frozen => .cells (litsOf Rows.laid_math_bits_deBruijn64tab) t frozen
   | o => o).modify 1 fun
   | .cells _ t frozen => .cells (litsOf Rows.laid_internal_strconv_uint64pow10) t frozen
   | o => o).modify 5 fun
   | .cells _ t frozen => .cells #[.iface 366 (.pointer (some ⟨lowS, 0, none⟩))] t frozen
   | o => o).modify 4 fun
   | .cells _ t frozen => .cells #[.iface 366 (.pointer (some ⟨lowS + 1, 0, none⟩))] t frozen
   | o => o }
theorem of_laid5 {W : World} (h : laidMetH Tryz.prog L5 W) : TabW W ∧ EvW W W.heap.size := by
 have h' : laidMet Tryz.prog L5 W := h
 have ht : TabW W := Lib.tabIs_of_head (n := 20) tabG (by kernel_rfl) Tryz.underlying345 Tryz.underlying214 (by kernel_rfl) (by kernel_rfl) (show laidMet Tryz.prog (("internal/strconv.uint64pow10", Lib.tabData .u64 Lib.pow10Tab) :: [("strconv.ErrRange", Rows.laid_strconv_ErrRange), ("strconv.ErrSyntax", Rows.laid_strconv_ErrSyntax)]) W from h'.tail.tail)
 obtain ⟨tr, pr, cr, lr⟩ := iface_head (show laidMet Tryz.prog (("strconv.ErrRange", .iface "*errors.errorString" (.ptr (.agg [.lit (.string [118, 97, 108, 117, 101, 32, 111, 117, 116, 32, 111, 102, 32, 114, 97, 110, 103, 101])]))) :: [("strconv.ErrSyntax", Rows.laid_strconv_ErrSyntax)]) W from h'.tail.tail.tail) (g := 5) (by kernel_rfl) (by kernel_rfl) Tryz.underlying33
 obtain ⟨ts, ps, cs, ls⟩ := iface_head (show laidMet Tryz.prog (("strconv.ErrSyntax", .iface "*errors.errorString" (.ptr (.agg [.lit (.string [105, 110, 118, 97, 108, 105, 100, 32, 115, 121, 110, 116, 97, 120])]))) :: []) W from h'.tail.tail.tail.tail) (g := 4) (by kernel_rfl) (by kernel_rfl) Tryz.underlying33
 exact ⟨ht, ts, ps, tr, pr, cs, cr, ls, lr⟩
theorem laidWorldS_met5 (os : Os) (args : Array Value) : laidMetH Tryz.prog L5 ((laidWorldS os).forCall (fun _ _ => 0) ⟨#[], args, []⟩).memory :=
 laidMetH_of_parts (laidMet_of_run3 8 (by kernel_rfl) (by kernel_rfl) (by kernel_rfl)) (by kernel_rfl)
end Go.Proofs.YtmhaahcbmdhinaaGreatDoor
