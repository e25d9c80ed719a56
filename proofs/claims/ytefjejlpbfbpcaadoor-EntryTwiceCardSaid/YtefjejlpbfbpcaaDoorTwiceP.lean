/- The law EntryTwice: its row, out of the walk. For every input that can be read the Go function answers true and leaves its arguments as they were. -/
import Derived.Test.YtefjejlpbfbpcaaDoorTwiceW
import Derived.Test.YtefjejlpbfbpcaaDoorSized
import Derived.Test.YtefjejlpbfbpcaaDoorOpen
import Derived.Test.YtefjejlpbfbpcaaDoorLaidT
import Derived.Test.YtefjejlpbfbpcaaDoorLaid
import Derived.Test.YtefjejlpbfbpcaaDoorCards
import Derived.Test.YtefjejlpbfbpcaaDoorTie
import Derived.SevenTiedAt
namespace Go.Proofs.YtefjejlpbfbpcaaDoor.entryTwice
open Go.ChangeShapes Go.WideShapes Go.ChangeAt Go.RowKit Go.Joins
set_option linter.unusedVariables false
set_option linter.unusedSimpArgs false
theorem own : ownKnob Tryd.prog.godebug = none := by kernel_rfl
theorem laidOut : laidOutB Tryd.prog = true := by kernel_rfl
set_option maxRecDepth 100000 in
theorem lifted (os : Os) (started : os.Started) (H : Type) (enc : TypeId × Value → H) :
    ReturnsInHanded {} Tryd.checked os 3 .any (fun w args => (Rows.entryTwiceSpec.pre enc Tryd.prog Tryd.f3 [] false w args ∧ laidMetH Tryd.prog Rows.entryTwiceRow.laid w) ∧ sizedMet enc Tryd.prog Tryd.f3 (OpenSpec.ofChange Rows.entryTwiceSpec) false w args)
      (Rows.entryTwiceSpec.post enc Tryd.prog Tryd.f3 false true false false) := by
  refine returnsInHanded_of_change_and (C := Tryd.checked) (X := fun w _ => laidMetH Tryd.prog Rows.entryTwiceRow.laid w) (fun _ _ _ hh h => h.of_heap hh) own started (by kernel_rfl) Tryd.func3
    (ChangeSpec.witness_at (enc := enc) (C := Tryd.checked) (os := os) (X := fun w _ => laidMetH Tryd.prog Rows.entryTwiceRow.laid w) false (laidWorldT os) #[.agg #[.int .i64 0, .int .i64 0, .slice none 0 0], .agg #[.int .i64 0, .int .i64 0, .slice none 0 0]] 8 rfl (by kernel_rfl) (by kernel_rfl) (by kernel_rfl) (by kernel_rfl) (by kernel_rfl) (laidWorldT_met3 os _)) ?_
  intro W base args ds gs before hval0 hW hcnd hsz hL _
  have hval : ∀ (j : Nat) t v, Tryd.f3.params[j]? = some t → args[j]? = some v → Value.okWide Tryd.prog W .any base t v := hval0
  have hW' := hW
  obtain ⟨p, q, hA0, hV, rfl, hfz, hnd⟩ := hW
  have hA : DataW.TrodAll enc Tryd.prog W 0 (fun _ => true) true Tryd.f3.params.toList args.toList ds p := hA0
  rw [Tryd.params3] at hA hval
  obtain ⟨v0, vs0, d0, ds0, p0, q0, hargs, rfl, rfl, h0, r0⟩ := trodAll_cons hA
  obtain ⟨v1, vs1, d1, ds1, p1, q1, rfl, rfl, rfl, h1, r1⟩ := trodAll_cons r0
  obtain ⟨rfl, rfl, rfl⟩ := trodAll_nil r1
  obtain rfl : args = #[v0, v1] := by cases args; simp_all
  obtain ⟨rfl, rfl⟩ := trodVars_none hV
  have k0 := h0
  have lt0 : ∀ x ∈ p0, x.block < W.heap.size := by obtain ⟨m, hm⟩ := k0; exact DataW.trod_lt m _ _ _ hm
  have ok0 := hval 0 24 v0 rfl rfl
  have k1 := h1
  have lt1 : ∀ x ∈ p1, x.block < W.heap.size := by obtain ⟨m, hm⟩ := k1; exact DataW.trod_lt m _ _ _ hm
  have ok1 := hval 1 26 v1 rfl rfl
  have ht := of_laid3 hL
  clear hA0 hval0 hval
  have walk : Calls Tryd.prog 3 #[v0, v1] W (YesPost W) := by
    obtain ⟨v0a, v0b, v0c, y0a, y0b, y0c, fu0, rfl, ed0, _, g0a, g0b, g0c⟩ := open_agg3 Tryd.underlying24 (by kernel_rfl) (by kernel_rfl) ok0 h0
    obtain ⟨v1a, v1b, v1c, y1a, y1b, y1c, fu1, rfl, ed1, _, g1a, g1b, g1c⟩ := open_agg3 Tryd.underlying26 (by kernel_rfl) (by kernel_rfl) ok1 h1
    obtain ⟨z0a, rfl, w0a⟩ := in_int Tryd.underlying3 g0a
    obtain ⟨z0b, rfl, w0b⟩ := in_int Tryd.underlying3 g0b
    have sz := Sized.each hsz (j := 0) (t := 24) (d := d0) (by kernel_rfl) rfl
    rw [ed0] at sz
    have szc := sz.field Tryd.underlying24 (j := 2) rfl rfl
    obtain ⟨A, n, c, L, rfl, hr, hln, hnc, hcm, haz, hd, hw⟩ := in_ents_sized Tryd.underlying22 Tryd.underlying47 (by kernel_rfl) (by kernel_rfl) Tryd.underlying3 Tryd.underlying3 Tryd.underlying3 Tryd.underlying36 Tryd.underlying5 (by kernel_rfl) (by kernel_rfl) g0c szc
    have hmx : maxLen = 9223372036854775807 := by decide
    obtain ⟨z1a, rfl, w1a⟩ := in_int Tryd.underlying3 g1a
    obtain ⟨z1b, rfl, w1b⟩ := in_int Tryd.underlying3 g1b
    have sz2 := Sized.each hsz (j := 1) (t := 26) (d := d1) (by kernel_rfl) rfl
    rw [ed1] at sz2
    have sz2c := sz2.field Tryd.underlying26 (j := 2) rfl rfl
    obtain ⟨M, nm, cm, more, rfl, gr, gln, gnc, gcm, gaz, gd, gw⟩ := in_ents_sized Tryd.underlying22 Tryd.underlying47 (by kernel_rfl) (by kernel_rfl) Tryd.underlying3 Tryd.underlying3 Tryd.underlying3 Tryd.underlying36 Tryd.underlying5 (by kernel_rfl) (by kernel_rfl) g1c sz2c
    exact twice_walk z0a z0b z1a z1b A n c L M nm cm more W hr hd hw (by omega) gr gd gw (by omega) ht
  refine walk.mono fun e W' ⟨he, bel⟩ => ?_
  subst he
  exact ⟨_, rfl, _, _, _, [], _, [], hW', trodAll_mk1 (shut_bool Tryd.underlying4 _), (trodAll_cons_mk (Below.trod laidOut (by kernel_rfl) (of_decide_eq_true (by kernel_rfl)) k0 bel lt0) (trodAll_cons_mk (Below.trod laidOut (by kernel_rfl) (of_decide_eq_true (by kernel_rfl)) k1 bel lt1) trodAll_mk0)), rfl, bel.frame _, fun h => by cases h⟩
theorem over : Rows.entryTwiceRow.holds Tryd.pinned (OpenSpec.ofChange Rows.entryTwiceSpec) :=
  OpenClaim.holds_of_wide 3 Tryd.f3 rfl rfl rfl rfl rfl rfl rfl ⟨rfl, rfl, rfl, rfl, rfl⟩ rfl rfl rfl rfl rfl (by kernel_rfl) Tryd.func3 (by kernel_rfl)
    (of_decide_eq_true (by kernel_rfl)) (by unfold Func.isWrapper; first | (rw [if_pos (by decide +kernel)]; kernel_rfl) | (rw [if_neg (by decide +kernel)]; exact ⟨rfl, rfl⟩))
    (fun os started H enc _ => lifted os started H enc)
theorem plain (f : FuncId) (fn : Func) (hf : Tryd.pinned.checked.prog.funcNamed "tollbar/tollbarlaw09.EntryTwice" = some f) (hfn : Tryd.pinned.checked.prog.funcs[f]? = some fn) :
    true = Tryd.pinned.checked.prog.looks [] ∧ ∀ (j : Nat) t, fn.params[j]? = some t → Tryd.pinned.checked.prog.wantsStandIn t = false := by
  obtain rfl : f = 3 := Option.some.inj ((show Tryd.prog.funcNamed "tollbar/tollbarlaw09.EntryTwice" = some 3 by kernel_rfl).symm.trans hf) |>.symm
  obtain rfl : fn = Tryd.f3 := (Option.some.inj (Tryd.func3.symm.trans hfn)).symm
  refine ⟨by kernel_rfl, fun j t ht => ?_⟩
  rw [Tryd.params3] at ht
  have hm := Array.mem_of_getElem? ht
  have s0 : Tryd.prog.wantsStandIn 24 = false := by kernel_rfl
  have s1 : Tryd.prog.wantsStandIn 26 = false := by kernel_rfl
  simp only [List.mem_toArray, List.mem_cons, List.not_mem_nil, or_false] at hm
  rcases hm with rfl | rfl
  · exact s0
  · exact s1
theorem proved : Rows.EntryTwiceCardSaid :=
  Claim7.holds_tied_plain_at .later [] _ _ _ _ over (fun _ h => by cases h) (by kernel_rfl) (fun _ h => by cases h) entryTwice_row_tie rfl ⟨rfl, rfl⟩ (by kernel_rfl) rfl plain (by kernel_rfl)
#print axioms proved
end Go.Proofs.YtefjejlpbfbpcaaDoor.entryTwice
