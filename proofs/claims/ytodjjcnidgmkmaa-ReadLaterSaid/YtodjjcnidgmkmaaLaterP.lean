/- The law ReadLater: its row, out of the walk. For every input that can be read the Go function answers true and leaves its arguments as they were. -/
import Derived.Test.YtodjjcnidgmkmaaLater
import Derived.Test.YtodjjcnidgmkmaaOpenQ
import Derived.Test.YtodjjcnidgmkmaaArr
import Derived.Test.YtodjjcnidgmkmaaOpen
namespace Go.Proofs.Ytodjjcnidgmkmaa.readLater
open Go.ChangeShapes Go.WideShapes Go.ChangeAt Go.RowKit Go.Joins
set_option linter.unusedVariables false
set_option linter.unusedSimpArgs false
theorem own : ownKnob Try.prog.godebug = none := by kernel_rfl
theorem laidOut : laidOutB Try.prog = true := by kernel_rfl
set_option maxRecDepth 100000 in
theorem lifted (os : Os) (started : os.Started) (H : Type) (enc : TypeId × Value → H) :
    ReturnsInHanded {} Try.checked os 3 .any (Rows.readLaterSpec.pre6 enc Try.prog Try.f3 Rows.readLaterRow.domain false) (Rows.readLaterSpec.post enc Try.prog Try.f3 false true false false) := by
  refine returnsInHanded_of_change_sized (C := Try.checked) own started (by kernel_rfl) Try.func3
    (ChangeSpec.witness6 (enc := enc) (C := Try.checked) false ⟨#[], #[.agg #[.int .i64 0, .slice none 0 0], .agg #[.int .i64 0, .int .i64 0, .int .i64 0], .agg #[.int .i64 0, .int .i64 0]], []⟩ 8 (by kernel_rfl) (by kernel_rfl) (by kernel_rfl) (by kernel_rfl)) ?_
  intro W base args ds gs before hval0 hW hcnd hsz _
  have hval : ∀ (j : Nat) t v, Try.f3.params[j]? = some t → args[j]? = some v → Value.okWide Try.prog W .any base t v := hval0
  have hW' := hW
  obtain ⟨p, q, hA0, hV, rfl, hfz, hnd⟩ := hW
  have hA : DataW.TrodAll enc Try.prog W 0 (fun _ => true) true Try.f3.params.toList args.toList ds p := hA0
  rw [Try.params3] at hA hval
  obtain ⟨v0, vs0, d0, ds0, p0, q0, hargs, rfl, rfl, h0, r0⟩ := trodAll_cons hA
  obtain ⟨v1, vs1, d1, ds1, p1, q1, rfl, rfl, rfl, h1, r1⟩ := trodAll_cons r0
  obtain ⟨v2, vs2, d2, ds2, p2, q2, rfl, rfl, rfl, h2, r2⟩ := trodAll_cons r1
  obtain ⟨rfl, rfl, rfl⟩ := trodAll_nil r2
  obtain rfl : args = #[v0, v1, v2] := by cases args; simp_all
  obtain ⟨rfl, rfl⟩ := trodVars_none hV
  have k0 := h0
  have lt0 : ∀ x ∈ p0, x.block < W.heap.size := by obtain ⟨m, hm⟩ := k0; exact DataW.trod_lt m _ _ _ hm
  have ok0 := hval 0 24 v0 rfl rfl
  have k1 := h1
  have lt1 : ∀ x ∈ p1, x.block < W.heap.size := by obtain ⟨m, hm⟩ := k1; exact DataW.trod_lt m _ _ _ hm
  have ok1 := hval 1 25 v1 rfl rfl
  have k2 := h2
  have lt2 : ∀ x ∈ p2, x.block < W.heap.size := by obtain ⟨m, hm⟩ := k2; exact DataW.trod_lt m _ _ _ hm
  have ok2 := hval 2 26 v2 rfl rfl
  clear hA0 hval0 hval
  have walk : Calls Try.prog 3 #[v0, v1, v2] W (YesPost W) := by
    obtain ⟨v0a, v0b, y0a, y0b, fu0, rfl, _, _, g0a, g0b⟩ := open_agg2 Try.underlying24 (by kernel_rfl) (by kernel_rfl) ok0 h0
    obtain ⟨z0a, rfl, w0a⟩ := in_int Try.underlying3 g0a
    obtain ⟨l1, rfl, ln1, wf1⟩ := open_arr_ints Try.underlying25 Try.underlying3 (by kernel_rfl) (by kernel_rfl) ok1 h1
    obtain ⟨l2, rfl, ln2, wf2⟩ := open_arr_ints Try.underlying26 Try.underlying3 (by kernel_rfl) (by kernel_rfl) ok2 h2
    obtain ⟨A, n, c, l, rfl, rd, hnc, hcm, hwf⟩ := in_items g0b
    obtain ⟨o0, o1, o2, rfl⟩ := three ln1
    obtain ⟨b0, b1, rfl⟩ := two ln2
    have i1 := i64_of_wf (wf1 o1 (by simp))
    have i2 := i64_of_wf (wf1 o2 (by simp))
    rcases Bool.eq_false_or_eq_true (decide (200 < (n : Int))) with h1 | h1
    · exact later_far _ _ _ _ _ _ _ _ _ _ (.inl h1)
    · rcases Bool.eq_false_or_eq_true (decide (1125899906842624 < o1)) with h2 | h2
      · exact later_far _ _ _ _ _ _ _ _ _ _ (.inr (.inl ⟨h1, h2⟩))
      · rcases Bool.eq_false_or_eq_true (decide (1125899906842624 < o2)) with h3 | h3
        · exact later_far _ _ _ _ _ _ _ _ _ _ (.inr (.inr ⟨h1, h2, of_decide_eq_true h3⟩))
        · exact later_walk _ _ _ _ _ _ _ _ _ _ _ rd h1 h2 h3 i1 i2
  refine walk.mono fun e W' ⟨he, bel⟩ => ?_
  subst he
  exact ⟨_, rfl, _, _, _, [], _, [], hW', trodAll_mk1 (shut_bool Try.underlying4 _), (trodAll_cons_mk (Below.trod laidOut (by kernel_rfl) (of_decide_eq_true (by kernel_rfl)) k0 bel lt0) (trodAll_cons_mk (Below.trod laidOut (by kernel_rfl) (of_decide_eq_true (by kernel_rfl)) k1 bel lt1) (trodAll_cons_mk (Below.trod laidOut (by kernel_rfl) (of_decide_eq_true (by kernel_rfl)) k2 bel lt2) trodAll_mk0))), rfl, bel.frame _, fun h => by cases h⟩
theorem over : Rows.readLaterRow.holds Try.pinned (OpenSpec.ofChange Rows.readLaterSpec) :=
  OpenClaim.holds_of_wide 3 Try.f3 rfl rfl rfl rfl rfl rfl rfl ⟨rfl, rfl, rfl, rfl, rfl⟩ rfl rfl rfl rfl rfl (by kernel_rfl) Try.func3 (by kernel_rfl)
    (of_decide_eq_true (by kernel_rfl)) (by unfold Func.isWrapper; first | (rw [if_pos (by decide +kernel)]; kernel_rfl) | (rw [if_neg (by decide +kernel)]; exact ⟨rfl, rfl⟩))
    (fun os started H enc _ => lifted os started H enc)
theorem proved : Rows.ReadLaterSaid := over
#print axioms proved
end Go.Proofs.Ytodjjcnidgmkmaa.readLater
