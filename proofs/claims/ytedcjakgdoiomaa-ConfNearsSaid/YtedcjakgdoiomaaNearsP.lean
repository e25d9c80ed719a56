/- The law ConfNears: its row, out of the walk. For every input that can be read the Go function answers true and leaves its arguments as they were. -/
import Derived.Test.YtedcjakgdoiomaaCounts
import Derived.Test.YtedcjakgdoiomaaOpen
namespace Go.Proofs.Ytedcjakgdoiomaa.confNears
open Go.ChangeShapes Go.WideShapes Go.ChangeAt Go.RowKit Go.Joins
set_option linter.unusedVariables false
set_option linter.unusedSimpArgs false
theorem own : ownKnob Try.prog.godebug = none := by kernel_rfl
theorem laidOut : laidOutB Try.prog = true := by kernel_rfl
set_option maxRecDepth 100000 in
theorem lifted (os : Os) (started : os.Started) (H : Type) (enc : TypeId × Value → H) :
    ReturnsInHanded {} Try.checked os 7 .any (Rows.confNearsSpec.pre6 enc Try.prog Try.f7 Rows.confNearsRow.domain false) (Rows.confNearsSpec.post enc Try.prog Try.f7 false true false false) := by
  refine returnsInHanded_of_change_sized (C := Try.checked) own started (by kernel_rfl) Try.func7
    (ChangeSpec.witness6 (enc := enc) (C := Try.checked) false ⟨#[], #[.slice none 0 0, .slice none 0 0], []⟩ 8 (by kernel_rfl) (by kernel_rfl) (by kernel_rfl) (by kernel_rfl)) ?_
  intro W base args ds gs before hval0 hW hcnd hsz _
  have hval : ∀ (j : Nat) t v, Try.f7.params[j]? = some t → args[j]? = some v → Value.okWide Try.prog W .any base t v := hval0
  have hW' := hW
  obtain ⟨p, q, hA0, hV, rfl, hfz, hnd⟩ := hW
  have hA : DataW.TrodAll enc Try.prog W 0 (fun _ => true) true Try.f7.params.toList args.toList ds p := hA0
  rw [Try.params7] at hA hval
  obtain ⟨v0, vs0, d0, ds0, p0, q0, hargs, rfl, rfl, h0, r0⟩ := trodAll_cons hA
  obtain ⟨v1, vs1, d1, ds1, p1, q1, rfl, rfl, rfl, h1, r1⟩ := trodAll_cons r0
  obtain ⟨rfl, rfl, rfl⟩ := trodAll_nil r1
  obtain rfl : args = #[v0, v1] := by cases args; simp_all
  obtain ⟨rfl, rfl⟩ := trodVars_none hV
  have k0 := h0
  have lt0 : ∀ x ∈ p0, x.block < W.heap.size := by obtain ⟨m, hm⟩ := k0; exact DataW.trod_lt m _ _ _ hm
  have ok0 := hval 0 22 v0 rfl rfl
  have k1 := h1
  have lt1 : ∀ x ∈ p1, x.block < W.heap.size := by obtain ⟨m, hm⟩ := k1; exact DataW.trod_lt m _ _ _ hm
  have ok1 := hval 1 22 v1 rfl rfl
  clear hA0 hval0 hval
  have walk : Calls Try.prog 7 #[v0, v1] W (YesPost W) := by
    obtain ⟨A0, n0, c0, rfl⟩ := okWide_slice Try.underlying22 ok0
    obtain ⟨fuel0, hf0⟩ := h0
    simp only [Value.cells] at hf0
    obtain ⟨_, _, _, l0, hv0, rd0, nc0, cm0, az0, wf0⟩ := in_ints Try.underlying22 Try.underlying3 (by kernel_rfl) hf0
    injection hv0 with hv0a hv0b hv0c
    subst hv0a hv0b hv0c
    obtain ⟨A1, n1, c1, rfl⟩ := okWide_slice Try.underlying22 ok1
    obtain ⟨fuel1, hf1⟩ := h1
    simp only [Value.cells] at hf1
    obtain ⟨_, _, _, l1, hv1, rd1, nc1, cm1, az1, wf1⟩ := in_ints Try.underlying22 Try.underlying3 (by kernel_rfl) hf1
    injection hv1 with hv1a hv1b hv1c
    subst hv1a hv1b hv1c
    by_cases h1 : (n0 : Int) ≤ 300
    · by_cases h2 : (n1 : Int) ≤ 300
      · exact nears_walk _ _ _ l0 _ _ _ l1 _ rd0 rd1 h1 h2
      · exact nears_far _ _ _ _ _ _ _ (.inr ⟨h1, by omega⟩)
    · exact nears_far _ _ _ _ _ _ _ (.inl (by omega))
  refine walk.mono fun e W' ⟨he, bel⟩ => ?_
  subst he
  exact ⟨_, rfl, _, _, _, [], _, [], hW', trodAll_mk1 (shut_bool Try.underlying4 _), (trodAll_cons_mk (Below.trod laidOut (by kernel_rfl) (of_decide_eq_true (by kernel_rfl)) k0 bel lt0) (trodAll_cons_mk (Below.trod laidOut (by kernel_rfl) (of_decide_eq_true (by kernel_rfl)) k1 bel lt1) trodAll_mk0)), rfl, bel.frame _, fun h => by cases h⟩
theorem over : Rows.confNearsRow.holds Try.pinned (OpenSpec.ofChange Rows.confNearsSpec) :=
  OpenClaim.holds_of_wide 7 Try.f7 rfl rfl rfl rfl rfl rfl rfl ⟨rfl, rfl, rfl, rfl, rfl⟩ rfl rfl rfl rfl rfl (by kernel_rfl) Try.func7 (by kernel_rfl)
    (of_decide_eq_true (by kernel_rfl)) (by unfold Func.isWrapper; first | (rw [if_pos (by decide +kernel)]; kernel_rfl) | (rw [if_neg (by decide +kernel)]; exact ⟨rfl, rfl⟩))
    (fun os started H enc _ => lifted os started H enc)
theorem proved : Rows.ConfNearsSaid := over
#print axioms proved
end Go.Proofs.Ytedcjakgdoiomaa.confNears
