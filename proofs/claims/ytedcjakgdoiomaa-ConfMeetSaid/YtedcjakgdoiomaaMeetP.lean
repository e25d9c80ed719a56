/- The law ConfMeet: its row, out of the walk. For every input that can be read the Go function answers true and leaves its arguments as they were. -/
import Derived.Test.YtedcjakgdoiomaaMeet
import Derived.Test.YtedcjakgdoiomaaOpen
import Derived.Test.YtedcjakgdoiomaaArrS
namespace Go.Proofs.Ytedcjakgdoiomaa.confMeet
open Go.ChangeShapes Go.WideShapes Go.ChangeAt Go.RowKit Go.Joins
set_option linter.unusedVariables false
set_option linter.unusedSimpArgs false
theorem own : ownKnob Try.prog.godebug = none := by kernel_rfl
theorem laidOut : laidOutB Try.prog = true := by kernel_rfl
set_option maxRecDepth 100000 in
theorem lifted (os : Os) (started : os.Started) (H : Type) (enc : TypeId × Value → H) :
    ReturnsInHanded {} Try.checked os 8 .any (Rows.confMeetSpec.pre6 enc Try.prog Try.f8 Rows.confMeetRow.domain false) (Rows.confMeetSpec.post enc Try.prog Try.f8 false true false false) := by
  refine returnsInHanded_of_change_sized (C := Try.checked) own started (by kernel_rfl) Try.func8
    (ChangeSpec.witness6 (enc := enc) (C := Try.checked) false ⟨#[], #[.slice none 0 0, .int .i64 0, .agg #[.slice none 0 0, .slice none 0 0]], []⟩ 8 (by kernel_rfl) (by kernel_rfl) (by kernel_rfl) (by kernel_rfl)) ?_
  intro W base args ds gs before hval0 hW hcnd hsz _
  have hval : ∀ (j : Nat) t v, Try.f8.params[j]? = some t → args[j]? = some v → Value.okWide Try.prog W .any base t v := hval0
  have hW' := hW
  obtain ⟨p, q, hA0, hV, rfl, hfz, hnd⟩ := hW
  have hA : DataW.TrodAll enc Try.prog W 0 (fun _ => true) true Try.f8.params.toList args.toList ds p := hA0
  rw [Try.params8] at hA hval
  obtain ⟨v0, vs0, d0, ds0, p0, q0, hargs, rfl, rfl, h0, r0⟩ := trodAll_cons hA
  obtain ⟨v1, vs1, d1, ds1, p1, q1, rfl, rfl, rfl, h1, r1⟩ := trodAll_cons r0
  obtain ⟨v2, vs2, d2, ds2, p2, q2, rfl, rfl, rfl, h2, r2⟩ := trodAll_cons r1
  obtain ⟨rfl, rfl, rfl⟩ := trodAll_nil r2
  obtain rfl : args = #[v0, v1, v2] := by cases args; simp_all
  obtain ⟨rfl, rfl⟩ := trodVars_none hV
  have k0 := h0
  have lt0 : ∀ x ∈ p0, x.block < W.heap.size := by obtain ⟨m, hm⟩ := k0; exact DataW.trod_lt m _ _ _ hm
  have ok0 := hval 0 22 v0 rfl rfl
  have k1 := h1
  have lt1 : ∀ x ∈ p1, x.block < W.heap.size := by obtain ⟨m, hm⟩ := k1; exact DataW.trod_lt m _ _ _ hm
  have ok1 := hval 1 3 v1 rfl rfl
  have k2 := h2
  have lt2 : ∀ x ∈ p2, x.block < W.heap.size := by obtain ⟨m, hm⟩ := k2; exact DataW.trod_lt m _ _ _ hm
  have ok2 := hval 2 41 v2 rfl rfl
  clear hA0 hval0 hval
  have walk : Calls Try.prog 8 #[v0, v1, v2] W (YesPost W) := by
    obtain ⟨A0, n0, c0, rfl⟩ := okWide_slice Try.underlying22 ok0
    obtain ⟨fuel0, hf0⟩ := h0
    simp only [Value.cells] at hf0
    obtain ⟨_, _, _, l0, hv0, rd0, nc0, cm0, az0, wf0⟩ := in_ints Try.underlying22 Try.underlying3 (by kernel_rfl) hf0
    injection hv0 with hv0a hv0b hv0c
    subst hv0a hv0b hv0c
    obtain ⟨z1, rfl, _, _, w1⟩ := open_int Try.underlying3 ok1 h1
    obtain ⟨A2, n2, c2, l2, A3, n3, c3, l3, rfl, rd2, rd3⟩ := open_two_ints Try.underlying41 Try.underlying22 Try.underlying3 (by kernel_rfl) (by kernel_rfl) (by kernel_rfl) ok2 h2
    by_cases h1 : (n0 : Int) ≤ 300
    · by_cases h2 : (n2 : Int) ≤ 300
      · by_cases h3 : (n3 : Int) ≤ 300
        · exact meet_walk _ _ _ l0 _ _ _ _ l2 _ _ _ l3 _ rd0 rd2 rd3 h1 h2 h3
        · exact meet_far _ _ _ _ _ _ _ _ _ _ _ (.inr (.inr ⟨h1, h2, by omega⟩))
      · exact meet_far _ _ _ _ _ _ _ _ _ _ _ (.inr (.inl ⟨h1, by omega⟩))
    · exact meet_far _ _ _ _ _ _ _ _ _ _ _ (.inl (by omega))
  refine walk.mono fun e W' ⟨he, bel⟩ => ?_
  subst he
  exact ⟨_, rfl, _, _, _, [], _, [], hW', trodAll_mk1 (shut_bool Try.underlying4 _), (trodAll_cons_mk (Below.trod laidOut (by kernel_rfl) (of_decide_eq_true (by kernel_rfl)) k0 bel lt0) (trodAll_cons_mk (Below.trod laidOut (by kernel_rfl) (of_decide_eq_true (by kernel_rfl)) k1 bel lt1) (trodAll_cons_mk (Below.trod laidOut (by kernel_rfl) (of_decide_eq_true (by kernel_rfl)) k2 bel lt2) trodAll_mk0))), rfl, bel.frame _, fun h => by cases h⟩
theorem over : Rows.confMeetRow.holds Try.pinned (OpenSpec.ofChange Rows.confMeetSpec) :=
  OpenClaim.holds_of_wide 8 Try.f8 rfl rfl rfl rfl rfl rfl rfl ⟨rfl, rfl, rfl, rfl, rfl⟩ rfl rfl rfl rfl rfl (by kernel_rfl) Try.func8 (by kernel_rfl)
    (of_decide_eq_true (by kernel_rfl)) (by unfold Func.isWrapper; first | (rw [if_pos (by decide +kernel)]; kernel_rfl) | (rw [if_neg (by decide +kernel)]; exact ⟨rfl, rfl⟩))
    (fun os started H enc _ => lifted os started H enc)
theorem proved : Rows.ConfMeetSaid := over
#print axioms proved
end Go.Proofs.Ytedcjakgdoiomaa.confMeet
