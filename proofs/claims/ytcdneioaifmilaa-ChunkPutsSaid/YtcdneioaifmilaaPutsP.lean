/- The law ChunkPuts: its row, out of the walk. For every input that can be read the Go function answers true and leaves its arguments as they were. -/
import Derived.Test.YtcdneioaifmilaaPuts
import Derived.Test.YtcdneioaifmilaaOpen
namespace Go.Proofs.Ytcdneioaifmilaa.chunkPuts
open Go.ChangeShapes Go.WideShapes Go.ChangeAt Go.RowKit Go.Joins
set_option linter.unusedVariables false
set_option linter.unusedSimpArgs false
theorem own : ownKnob Try.prog.godebug = none := by kernel_rfl
theorem laidOut : laidOutB Try.prog = true := by kernel_rfl
set_option maxRecDepth 100000 in
theorem lifted (os : Os) (started : os.Started) (H : Type) (enc : TypeId × Value → H) :
    ReturnsInHanded {} Try.checked os 3 .any (Rows.chunkPutsSpec.pre6 enc Try.prog Try.f3 Rows.chunkPutsRow.domain false) (Rows.chunkPutsSpec.post enc Try.prog Try.f3 false true false false) := by
  refine returnsInHanded_of_change (C := Try.checked) own started (by kernel_rfl) Try.func3
    (ChangeSpec.witness6 (enc := enc) (C := Try.checked) false ⟨#[], #[.slice none 0 0], []⟩ 8 (by kernel_rfl) (by kernel_rfl) (by kernel_rfl) (by kernel_rfl)) ?_
  intro W base args ds gs before hval0 hW hcnd hsz
  have hval : ∀ (j : Nat) t v, Try.f3.params[j]? = some t → args[j]? = some v → Value.okWide Try.prog W .any base t v := hval0
  have hW' := hW
  obtain ⟨p, q, hA0, hV, rfl, hfz, hnd⟩ := hW
  have hA : DataW.TrodAll enc Try.prog W 0 (fun _ => true) true Try.f3.params.toList args.toList ds p := hA0
  rw [Try.params3] at hA hval
  obtain ⟨v0, vs0, d0, ds0, p0, q0, hargs, rfl, rfl, h0, r0⟩ := trodAll_cons hA
  obtain ⟨rfl, rfl, rfl⟩ := trodAll_nil r0
  obtain rfl : args = #[v0] := by cases args; simp_all
  obtain ⟨rfl, rfl⟩ := trodVars_none hV
  have k0 := h0
  have lt0 : ∀ x ∈ p0, x.block < W.heap.size := by obtain ⟨m, hm⟩ := k0; exact DataW.trod_lt m _ _ _ hm
  have ok0 := hval 0 22 v0 rfl rfl
  clear hA0 hval0 hval
  have walk : Calls Try.prog 3 #[v0] W (YesPost W) := by
    obtain ⟨A0, n0, c0, rfl⟩ := okWide_slice Try.underlying22 ok0
    obtain ⟨fuel0, hf0⟩ := h0
    simp only [Value.cells] at hf0
    obtain ⟨_, _, _, hv, nc, cm, az, hrow⟩ := in_rows Try.underlying22 Try.underlying28 (by kernel_rfl) (by kernel_rfl) (by decide) hf0
    injection hv with hva hvb hvc
    subst hva hvb hvc
    refine puts_walk _ _ _ _ (by unfold maxLen at cm; omega) fun i hi => ?_
    obtain ⟨b, o, cs, m, rfl, hlen, hcell, hfield⟩ := hrow i hi
    obtain ⟨u0, y0, g0, t0⟩ := hfield 0 _ rfl
    obtain ⟨u1, y1, g1, t1⟩ := hfield 1 _ rfl
    obtain ⟨u2, y2, g2, t2⟩ := hfield 2 _ rfl
    obtain ⟨u3, y3, g3, t3⟩ := hfield 3 _ rfl
    obtain ⟨key, rfl, _⟩ := in_int Try.underlying3 t0
    obtain ⟨off, rfl, _⟩ := in_int Try.underlying3 t1
    obtain ⟨B, m', d, l, rfl, hr, _⟩ := in_bytes Try.underlying23 Try.underlying5 (by kernel_rfl) t2
    obtain ⟨last, rfl⟩ := in_bool Try.underlying4 t3
    exact ⟨b, o, key, off, B, m', d, l, last, rfl, hcell 0 _ g0, hcell 1 _ g1, hcell 2 _ g2, hcell 3 _ g3, hr⟩
  refine walk.mono fun e W' ⟨he, bel⟩ => ?_
  subst he
  exact ⟨_, rfl, _, _, _, [], _, [], hW', trodAll_mk1 (shut_bool Try.underlying4 _), (trodAll_cons_mk (Below.trod laidOut (by kernel_rfl) (of_decide_eq_true (by kernel_rfl)) k0 bel lt0) trodAll_mk0), rfl, bel.frame _, fun h => by cases h⟩
theorem over : Rows.chunkPutsRow.holds Try.pinned (OpenSpec.ofChange Rows.chunkPutsSpec) :=
  OpenClaim.holds_of_wide 3 Try.f3 rfl rfl rfl rfl rfl rfl rfl ⟨rfl, rfl, rfl, rfl, rfl⟩ rfl rfl rfl rfl rfl (by kernel_rfl) Try.func3 (by kernel_rfl)
    (of_decide_eq_true (by kernel_rfl)) (by unfold Func.isWrapper; first | (rw [if_pos (by decide +kernel)]; kernel_rfl) | (rw [if_neg (by decide +kernel)]; exact ⟨rfl, rfl⟩))
    (fun os started H enc _ => lifted os started H enc)
theorem proved : Rows.ChunkPutsSaid := over
#print axioms proved
end Go.Proofs.Ytcdneioaifmilaa.chunkPuts
