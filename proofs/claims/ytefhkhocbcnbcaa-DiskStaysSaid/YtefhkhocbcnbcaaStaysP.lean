/- The law DiskStays: its row, out of the walk. For every input that can be read the Go function answers true and leaves its arguments as they were. -/
import Derived.Test.YtefhkhocbcnbcaaStays
import Derived.Test.YtefhkhocbcnbcaaOpen
namespace Go.Proofs.Ytefhkhocbcnbcaa.diskStays
open Go.ChangeShapes Go.WideShapes Go.ChangeAt Go.RowKit Go.Joins
set_option linter.unusedVariables false
set_option linter.unusedSimpArgs false
theorem own : ownKnob Try.prog.godebug = none := by kernel_rfl
theorem laidOut : laidOutB Try.prog = true := by kernel_rfl
set_option maxRecDepth 100000 in
theorem lifted (os : Os) (started : os.Started) (H : Type) (enc : TypeId × Value → H) :
    ReturnsInHanded {} Try.checked os 4 .any (Rows.diskStaysSpec.pre6 enc Try.prog Try.f4 Rows.diskStaysRow.domain false) (Rows.diskStaysSpec.post enc Try.prog Try.f4 false true false false) := by
  refine returnsInHanded_of_change_sized (C := Try.checked) own started (by kernel_rfl) Try.func4
    (ChangeSpec.witness6 (enc := enc) (C := Try.checked) false ⟨#[], #[.slice none 0 0, .slice none 0 0, .slice none 0 0], []⟩ 8 (by kernel_rfl) (by kernel_rfl) (by kernel_rfl) (by kernel_rfl)) ?_
  intro W base args ds gs before hval0 hW hcnd hsz _
  have hval : ∀ (j : Nat) t v, Try.f4.params[j]? = some t → args[j]? = some v → Value.okWide Try.prog W .any base t v := hval0
  have hW' := hW
  obtain ⟨p, q, hA0, hV, rfl, hfz, hnd⟩ := hW
  have hA : DataW.TrodAll enc Try.prog W 0 (fun _ => true) true Try.f4.params.toList args.toList ds p := hA0
  rw [Try.params4] at hA hval
  obtain ⟨v0, vs0, d0, ds0, p0, q0, hargs, rfl, rfl, h0, r0⟩ := trodAll_cons hA
  obtain ⟨v1, vs1, d1, ds1, p1, q1, rfl, rfl, rfl, h1, r1⟩ := trodAll_cons r0
  obtain ⟨v2, vs2, d2, ds2, p2, q2, rfl, rfl, rfl, h2, r2⟩ := trodAll_cons r1
  obtain ⟨rfl, rfl, rfl⟩ := trodAll_nil r2
  obtain rfl : args = #[v0, v1, v2] := by cases args; simp_all
  obtain ⟨rfl, rfl⟩ := trodVars_none hV
  have k0 := h0
  have lt0 : ∀ x ∈ p0, x.block < W.heap.size := by obtain ⟨m, hm⟩ := k0; exact DataW.trod_lt m _ _ _ hm
  have ok0 := hval 0 37 v0 rfl rfl
  have k1 := h1
  have lt1 : ∀ x ∈ p1, x.block < W.heap.size := by obtain ⟨m, hm⟩ := k1; exact DataW.trod_lt m _ _ _ hm
  have ok1 := hval 1 37 v1 rfl rfl
  have k2 := h2
  have lt2 : ∀ x ∈ p2, x.block < W.heap.size := by obtain ⟨m, hm⟩ := k2; exact DataW.trod_lt m _ _ _ hm
  have ok2 := hval 2 23 v2 rfl rfl
  clear hA0 hval0 hval
  have walk : Calls Try.prog 4 #[v0, v1, v2] W (YesPost W) := by
    obtain ⟨A0, n0, c0, rfl⟩ := okWide_slice Try.underlying37 ok0
    obtain ⟨fuel0, hf0⟩ := h0
    simp only [Value.cells] at hf0
    obtain ⟨A1, n1, c1, rfl⟩ := okWide_slice Try.underlying37 ok1
    obtain ⟨fuel1, hf1⟩ := h1
    simp only [Value.cells] at hf1
    obtain ⟨A2, n2, c2, rfl⟩ := okWide_slice Try.underlying23 ok2
    obtain ⟨fuel2, hf2⟩ := h2
    simp only [Value.cells] at hf2
    obtain ⟨_, _, _, l2, hv2, rd2, nc2, cm2, az2, wf2⟩ := in_ints Try.underlying23 Try.underlying3 (by kernel_rfl) hf2
    injection hv2 with hv2a hv2b hv2c
    subst hv2a hv2b hv2c
    have sa := Sized.each hsz (j := 0) (t := 37) (d := d0) (by kernel_rfl) rfl
    have sb := Sized.each hsz (j := 1) (t := 37) (d := d1) (by kernel_rfl) rfl
    obtain ⟨_, _, _, L0, hv0, hr0, hln0, _, _, hd0⟩ := in_acts Try.underlying37 Try.underlying39 (by kernel_rfl) (by kernel_rfl) Try.underlying3 Try.underlying3 Try.underlying3 Try.underlying29 Try.underlying5 (by kernel_rfl) Try.underlying23 Try.underlying3 (by kernel_rfl) (by kernel_rfl) hf0 sa
    injection hv0 with hv0a hv0b hv0c
    subst hv0a hv0b hv0c
    obtain ⟨_, _, _, L1, hv1, hr1, hln1, _, _, hd1⟩ := in_acts Try.underlying37 Try.underlying39 (by kernel_rfl) (by kernel_rfl) Try.underlying3 Try.underlying3 Try.underlying3 Try.underlying29 Try.underlying5 (by kernel_rfl) Try.underlying23 Try.underlying3 (by kernel_rfl) (by kernel_rfl) hf1 sb
    injection hv1 with hv1a hv1b hv1c
    subst hv1a hv1b hv1c
    have sz1 := sized_row hsz (j := 2) (t := 23) (by kernel_rfl) rfl Try.underlying23 Try.underlying3 (by kernel_rfl) hf2
    have hb8 : Try.checked.prog.bytesOf 3 = 8 := by kernel_rfl
    rw [hb8] at sz1
    have hrb : reachBytes = 140737488351232 := rfl
    exact stays_walk A0 n0 c0 L0 A1 n1 c1 L1 A2 n2 c2 l2 W hr0 hd0 hr1 hd1 rd2 (fun z hz => i64_of_wf (wf2 z hz)) (by have := nc2; omega)
  refine walk.mono fun e W' ⟨he, bel⟩ => ?_
  subst he
  exact ⟨_, rfl, _, _, _, [], _, [], hW', trodAll_mk1 (shut_bool Try.underlying4 _), (trodAll_cons_mk (Below.trod laidOut (by kernel_rfl) (of_decide_eq_true (by kernel_rfl)) k0 bel lt0) (trodAll_cons_mk (Below.trod laidOut (by kernel_rfl) (of_decide_eq_true (by kernel_rfl)) k1 bel lt1) (trodAll_cons_mk (Below.trod laidOut (by kernel_rfl) (of_decide_eq_true (by kernel_rfl)) k2 bel lt2) trodAll_mk0))), rfl, bel.frame _, fun h => by cases h⟩
theorem over : Rows.diskStaysRow.holds Try.pinned (OpenSpec.ofChange Rows.diskStaysSpec) :=
  OpenClaim.holds_of_wide 4 Try.f4 rfl rfl rfl rfl rfl rfl rfl ⟨rfl, rfl, rfl, rfl, rfl⟩ rfl rfl rfl rfl rfl (by kernel_rfl) Try.func4 (by kernel_rfl)
    (of_decide_eq_true (by kernel_rfl)) (by unfold Func.isWrapper; first | (rw [if_pos (by decide +kernel)]; kernel_rfl) | (rw [if_neg (by decide +kernel)]; exact ⟨rfl, rfl⟩))
    (fun os started H enc _ => lifted os started H enc)
theorem proved : Rows.DiskStaysSaid := over
#print axioms proved
end Go.Proofs.Ytefhkhocbcnbcaa.diskStays
