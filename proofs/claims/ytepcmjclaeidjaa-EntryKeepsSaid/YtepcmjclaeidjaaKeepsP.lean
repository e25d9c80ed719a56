/- The law EntryKeeps: its row, out of the walk. For every input that can be read the Go function answers true and leaves its arguments as they were. -/
import Derived.Test.YtepcmjclaeidjaaKeepsW
import Derived.Test.YtepcmjclaeidjaaSized
import Derived.Test.YtepcmjclaeidjaaOpen
namespace Go.Proofs.Ytepcmjclaeidjaa.entryKeeps
open Go.ChangeShapes Go.WideShapes Go.ChangeAt Go.RowKit Go.Joins
set_option linter.unusedVariables false
set_option linter.unusedSimpArgs false
theorem own : ownKnob Try.prog.godebug = none := by kernel_rfl
theorem laidOut : laidOutB Try.prog = true := by kernel_rfl
set_option maxRecDepth 100000 in
theorem lifted (os : Os) (started : os.Started) (H : Type) (enc : TypeId × Value → H) :
    ReturnsInHanded {} Try.checked os 4 .any (Rows.entryKeepsSpec.pre6 enc Try.prog Try.f4 Rows.entryKeepsRow.domain false) (Rows.entryKeepsSpec.post enc Try.prog Try.f4 false true false false) := by
  refine returnsInHanded_of_change_sized (C := Try.checked) own started (by kernel_rfl) Try.func4
    (ChangeSpec.witness6 (enc := enc) (C := Try.checked) false ⟨#[], #[.agg #[.int .i64 0, .int .i64 0, .slice none 0 0], .int .i64 0], []⟩ 8 (by kernel_rfl) (by kernel_rfl) (by kernel_rfl) (by kernel_rfl)) ?_
  intro W base args ds gs before hval0 hW hcnd hsz _
  have hval : ∀ (j : Nat) t v, Try.f4.params[j]? = some t → args[j]? = some v → Value.okWide Try.prog W .any base t v := hval0
  have hW' := hW
  obtain ⟨p, q, hA0, hV, rfl, hfz, hnd⟩ := hW
  have hA : DataW.TrodAll enc Try.prog W 0 (fun _ => true) true Try.f4.params.toList args.toList ds p := hA0
  rw [Try.params4] at hA hval
  obtain ⟨v0, vs0, d0, ds0, p0, q0, hargs, rfl, rfl, h0, r0⟩ := trodAll_cons hA
  obtain ⟨v1, vs1, d1, ds1, p1, q1, rfl, rfl, rfl, h1, r1⟩ := trodAll_cons r0
  obtain ⟨rfl, rfl, rfl⟩ := trodAll_nil r1
  obtain rfl : args = #[v0, v1] := by cases args; simp_all
  obtain ⟨rfl, rfl⟩ := trodVars_none hV
  have k0 := h0
  have lt0 : ∀ x ∈ p0, x.block < W.heap.size := by obtain ⟨m, hm⟩ := k0; exact DataW.trod_lt m _ _ _ hm
  have ok0 := hval 0 24 v0 rfl rfl
  have k1 := h1
  have lt1 : ∀ x ∈ p1, x.block < W.heap.size := by obtain ⟨m, hm⟩ := k1; exact DataW.trod_lt m _ _ _ hm
  have ok1 := hval 1 3 v1 rfl rfl
  clear hA0 hval0 hval
  have walk : Calls Try.prog 4 #[v0, v1] W (YesPost W) := by
    obtain ⟨v0a, v0b, v0c, y0a, y0b, y0c, fu0, rfl, ed0, _, g0a, g0b, g0c⟩ := open_agg3 Try.underlying24 (by kernel_rfl) (by kernel_rfl) ok0 h0
    obtain ⟨z0a, rfl, w0a⟩ := in_int Try.underlying3 g0a
    obtain ⟨z0b, rfl, w0b⟩ := in_int Try.underlying3 g0b
    obtain ⟨z1, rfl, _, _, w1⟩ := open_int Try.underlying3 ok1 h1
    have sz := Sized.each hsz (j := 0) (t := 24) (d := d0) (by kernel_rfl) rfl
    rw [ed0] at sz
    have szc := sz.field Try.underlying24 (j := 2) rfl rfl
    obtain ⟨A, n, c, L, rfl, hr, hln, hnc, hcm, haz, hd, hw⟩ := in_ents_sized Try.underlying22 Try.underlying45 (by kernel_rfl) (by kernel_rfl) Try.underlying3 Try.underlying3 Try.underlying3 Try.underlying43 Try.underlying5 (by kernel_rfl) (by kernel_rfl) g0c szc
    have hmx : maxLen = 9223372036854775807 := by decide
    exact keeps_walk z0a z0b z1 A n c L W hr hd hw (by omega) (i64_of_wf w1)
  refine walk.mono fun e W' ⟨he, bel⟩ => ?_
  subst he
  exact ⟨_, rfl, _, _, _, [], _, [], hW', trodAll_mk1 (shut_bool Try.underlying4 _), (trodAll_cons_mk (Below.trod laidOut (by kernel_rfl) (of_decide_eq_true (by kernel_rfl)) k0 bel lt0) (trodAll_cons_mk (Below.trod laidOut (by kernel_rfl) (of_decide_eq_true (by kernel_rfl)) k1 bel lt1) trodAll_mk0)), rfl, bel.frame _, fun h => by cases h⟩
theorem over : Rows.entryKeepsRow.holds Try.pinned (OpenSpec.ofChange Rows.entryKeepsSpec) :=
  OpenClaim.holds_of_wide 4 Try.f4 rfl rfl rfl rfl rfl rfl rfl ⟨rfl, rfl, rfl, rfl, rfl⟩ rfl rfl rfl rfl rfl (by kernel_rfl) Try.func4 (by kernel_rfl)
    (of_decide_eq_true (by kernel_rfl)) (by unfold Func.isWrapper; first | (rw [if_pos (by decide +kernel)]; kernel_rfl) | (rw [if_neg (by decide +kernel)]; exact ⟨rfl, rfl⟩))
    (fun os started H enc _ => lifted os started H enc)
theorem proved : Rows.EntryKeepsSaid := over
#print axioms proved
end Go.Proofs.Ytepcmjclaeidjaa.entryKeeps
