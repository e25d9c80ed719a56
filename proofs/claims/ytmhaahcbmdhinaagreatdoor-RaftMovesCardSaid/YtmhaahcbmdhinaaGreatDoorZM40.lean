/- The law RaftMoves: its row, out of the walk -/
import Derived.Test.YtmhaahcbmdhinaaGreatDoorZM38
import Derived.Test.YtmhaahcbmdhinaaGreatDoorZM0
import Derived.Test.YtmhaahcbmdhinaaGreatDoorZM39
import Derived.Test.YtmhaahcbmdhinaaGreatDoorCards
import Derived.Test.YtmhaahcbmdhinaaGreatDoorTie
import Derived.SevenTiedAt
namespace Go.Proofs.YtmhaahcbmdhinaaGreatDoor.raftMoves
open Go.ChangeShapes Go.WideShapes Go.ChangeAt Go.RowKit Go.Joins
set_option linter.unusedVariables false
set_option linter.unusedSimpArgs false
theorem own : ownKnob Tryz.prog.godebug = none := by kernel_rfl
theorem laidOut : laidOutB Tryz.prog = true := by kernel_rfl
set_option maxRecDepth 100000 in
theorem lifted (os : Os) (started : os.Started) (H : Type) (enc : TypeId × Value → H) :
  ReturnsInHanded {} Tryz.checked os 6 .any (fun w args => (Rows.raftMovesSpec.pre enc Tryz.prog Tryz.f6 [] false w args ∧ laidMetH Tryz.prog Rows.raftMovesRow.laid w) ∧ sizedMet enc Tryz.prog Tryz.f6 (OpenSpec.ofChange Rows.raftMovesSpec) false w args)
   (Rows.raftMovesSpec.post enc Tryz.prog Tryz.f6 false true false false) := by
 refine returnsInHanded_of_change_and (C := Tryz.checked) (X := fun w _ => laidMetH Tryz.prog Rows.raftMovesRow.laid w) (fun _ _ _ hh h => h.of_heap hh) own started (by kernel_rfl) Tryz.func6
  (ChangeSpec.witness_at (enc := enc) (C := Tryz.checked) (os := os) (X := fun w _ => laidMetH Tryz.prog Rows.raftMovesRow.laid w) false (laidWorldS os) #[.int .i64 0, .slice none 0 0] 8 rfl (by kernel_rfl) (by kernel_rfl) (by kernel_rfl) (by kernel_rfl) (by kernel_rfl) (laidWorldS_met5 os _)) ?_
 intro W base args ds gs before hval0 hW hcnd hsz hL _
 have hval : ∀ (j : Nat) t v, Tryz.f6.params[j]? = some t → args[j]? = some v → Value.okWide Tryz.prog W .any base t v := hval0
 have hW' := hW
 obtain ⟨p, q, hA0, hV, rfl, hfz, hnd⟩ := hW
 have hA : DataW.TrodAll enc Tryz.prog W 0 (fun _ => true) true Tryz.f6.params.toList args.toList ds p := hA0
 rw [Tryz.params6] at hA hval
 obtain ⟨v0, vs0, d0, ds0, p0, q0, hargs, rfl, rfl, h0, r0⟩ := trodAll_cons hA
 obtain ⟨v1, vs1, d1, ds1, p1, q1, rfl, rfl, rfl, h1, r1⟩ := trodAll_cons r0
 obtain ⟨rfl, rfl, rfl⟩ := trodAll_nil r1
 obtain rfl : args = #[v0, v1] := by cases args; simp_all
 obtain ⟨rfl, rfl⟩ := trodVars_none hV
 have k0 := h0
 have lt0 : ∀ x ∈ p0, x.block < W.heap.size := by obtain ⟨m, hm⟩ := k0; exact DataW.trod_lt m _ _ _ hm
 have ok0 := hval 0 3 v0 rfl rfl
 have k1 := h1
 have lt1 : ∀ x ∈ p1, x.block < W.heap.size := by obtain ⟨m, hm⟩ := k1; exact DataW.trod_lt m _ _ _ hm
 have ok1 := hval 1 81 v1 rfl rfl
 obtain ⟨ht, hv⟩ := of_laid5 hL
 clear hA0 hval0 hval
 have walk : Calls Tryz.prog 6 #[v0, v1] W (YesPost W) := by
  obtain ⟨z0, rfl, _, _, w0⟩ := open_int Tryz.underlying3 ok0 h0
  obtain ⟨A1, n1, c1, rfl⟩ := okWide_slice Tryz.underlying81 ok1
  obtain ⟨fuel1, hf1⟩ := h1
  simp only [Value.cells] at hf1
  obtain ⟨_, _, _, L1, hv1, hr1, hln1, hnc1, hcm1, _, hd1⟩ := in_flat Tryz.underlying81 Tryz.underlying92 (by kernel_rfl) (by kernel_rfl) (by decide) (ints4 Tryz.underlying3 Tryz.underlying3 Tryz.underlying3 Tryz.underlying3) hf1
  injection hv1 with hv1a hv1b hv1c
  subst hv1a hv1b hv1c
  exact moves_walk z0 A1 n1 c1 (L1.map toDe) W (by rw [flat_toDe L1 fun r hr => (hd1 r hr).1]; exact hr1) ht hv
 refine walk.mono fun e W' ⟨he, bel⟩ => ?_
 subst he
 exact ⟨_, rfl, _, _, _, [], _, [], hW', trodAll_mk1 (shut_bool Tryz.underlying4 _), (trodAll_cons_mk (Below.trod laidOut (by kernel_rfl) (of_decide_eq_true (by kernel_rfl)) k0 bel lt0) (trodAll_cons_mk (Below.trod laidOut (by kernel_rfl) (of_decide_eq_true (by kernel_rfl)) k1 bel lt1) trodAll_mk0)), rfl, bel.frame _, fun h => by cases h⟩
end Go.Proofs.YtmhaahcbmdhinaaGreatDoor.raftMoves
