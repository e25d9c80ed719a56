/- Walks of entry.own, owns. -/
import Derived.Test.YtefjejlpbfbpcaaDoorGive
namespace Go.Proofs.YtefjejlpbfbpcaaDoor
open Go.RowKit
set_option maxRecDepth 100000
set_option linter.unusedVariables false
set_option linter.unusedSimpArgs false
theorem own1_any (x : Er) (w : World) (hr : Rd w T 1 x.A x.n (bs x.d)) (hn : x.n ≤ 1000000) :
    Calls Tryd.prog 37 #[.agg #[.int .i64 x.a, .int .i64 x.b, .int .i64 x.c, .slice x.A x.n x.m]] w (GivePost w x) := by
  have hcl := fun W (hb : Below w.heap.size w W) => clone_any x.A x.n x.m (bs x.d) W (hr.below hb) (bs_one _) (by omega)
  have Hcl := Lib.hid hcl
  clear hcl hr
  have hb0 : Below w.heap.size w ((w.alloc (.cells #[.int .i64 x.a, .int .i64 x.b, .int .i64 x.c, .slice x.A x.n x.m] 39)).alloc (.cells #[.int .i64 0, .int .i64 0, .int .i64 0, .slice none 0 0] 39)) := ((Below.refl _ _).alloc (Nat.le_refl _) _).alloc (by simp) _
  have XB := (Bx.new w #[.int .i64 x.a, .int .i64 x.b, .int .i64 x.c, .slice x.A x.n x.m] 39 rfl).alloc (.cells #[.int .i64 0, .int .i64 0, .int .i64 0, .slice none 0 0] 39)
  have XR := Bx.new (w.alloc (.cells #[.int .i64 x.a, .int .i64 x.b, .int .i64 x.c, .slice x.A x.n x.m] 39)) #[.int .i64 0, .int .i64 0, .int .i64 0, .slice none 0 0] 39 (g := w.heap.size + 1) (by simp)
  have HX := Lib.hid (And.intro XB XR)
  have Hb0 := Lib.hid hb0
  clear XB XR hb0
  go_enter Tryd.func37, Tryd.ntmps37
  go_wp2_with fail
  refine (Hcl.out _ Hb0.out).mono ?_
  rintro e w3 ⟨A3, c3, rfl, hown3, hb3⟩
  obtain ⟨p0, p1, p2, p3, f0, f1, f2, f3⟩ := (HX.out.1.below hb3).c4
  obtain ⟨r0, r1, r2, r3, g0, g1, g2, g3⟩ := (HX.out.2.below hb3).c4
  have hz3 := hb3.size
  simp only [World.size_alloc] at hz3
  have n1 : ¬ w.heap.size + 1 = w.heap.size := by omega
  have n2 : ¬ w.heap.size = w.heap.size + 1 := by omega
  have Ho := Lib.hid hown3
  have Hb3 := Lib.hid hb3
  clear hown3 hb3
  go_wp2_with fail
  refine bodyPost_ret (by simp [results, Tryd.results37, go_sem, r0, r1, r2, r3, n1, n2]; rfl) rfl ?_
  have hm := own_cap Ho.out
  have hb4 := Hb0.out.trans (Hb3.out.mono (by simp; omega))
  have h1 : ¬ w.heap.size + 1 + 1 ≤ w.heap.size := by omega
  have h2 : ¬ w.heap.size + 1 + 1 ≤ w.heap.size + 1 := by omega
  have r5 : Rd w3 (w.heap.size + 1 + 1 ≤ ·) 1 A3 x.n (bs x.d) := by have := Rd.of_own Ho.out; simpa using this
  refine ⟨A3, c3, rfl, ?_, hm.1, hm.2, ?_⟩
  · exact (((((r5.setCell (p := ⟨w.heap.size, 3, none⟩) h1 _).setCell (p := ⟨w.heap.size + 1, 0, none⟩) h2 _).setCell (p := ⟨w.heap.size + 1, 1, none⟩) h2 _).setCell (p := ⟨w.heap.size + 1, 2, none⟩) h2 _).setCell (p := ⟨w.heap.size + 1, 3, none⟩) h2 _).mono fun b hb => by omega
  · exact ((((hb4.setCell (Nat.le_refl _) _).setCell (by show w.heap.size ≤ w.heap.size + 1; omega) _).setCell (by show w.heap.size ≤ w.heap.size + 1; omega) _).setCell (by show w.heap.size ≤ w.heap.size + 1; omega) _).setCell (by show w.heap.size ≤ w.heap.size + 1; omega) _
set_option maxHeartbeats 1600000 in
theorem owns_any (A : Option Addr) (n c : Nat) (L : List Er) (w : World) {ok : Nat → Prop} (hr : Rd w ok 4 A n (flat ecell L)) (hd : Dat w L) (hs : ∀ x ∈ L, x.n ≤ 1000000) (hn : n ≤ 1000000) :
    Calls Tryd.prog 32 #[.slice A n c] w (GivesPost w n L) := by
  have Hll := Lib.hid (hr.flen ecell_len (by omega))
  have Hd := Lib.hid hd
  have Hs := Lib.hid hs
  have Hr := Lib.hid hr
  clear hd hs hr
  go_enter Tryd.func32, Tryd.ntmps32
  go_wp2_with fail
  go_loopg [3, 5, 8] n (fun m s3 s5 s8 wr => ∃ (j : Nat) (A' : Option Addr) (c' : Nat) (L' : List Er), m = n - j ∧ j ≤ n ∧ s8 = .int .i64 j ∧ s3 = .slice A' j c' ∧ Ro wr w.heap.size A' j c' L' ∧ Same (L.take j) L' ∧ Below w.heap.size w wr)
  case atStart => exact ⟨0, none, 0, [], by omega, by omega, rfl, rfl, Ro.nil _ _, rfl, Below.refl _ _⟩
  case round =>
    obtain ⟨j, A', c', L', hm, hj, rfl, rfl, hro, hsm, hb⟩ := hrel
    have Hm := Lib.hid hm
    have Ro1 := Lib.hid hro
    have Sm := Lib.hid hsm
    have Hb := Lib.hid hb
    clear hm hro hsm hb
    by_cases hlt : j < n
    · obtain ⟨b, o, x, rfl, _, hbl, hx, c0, c1, c2, c3⟩ := er_cells (Hr.out.below Hb.out) hlt
      have hjI : (j : Int) < n := by omega
      have hdx := (Hd.out x (List.mem_of_getElem? hx)).1.below Hb.out
      have hxn := Hs.out x (List.mem_of_getElem? hx)
      have hg1 := fun ob => own1_any x (wr.alloc ob) (hdx.alloc ob) hxn
      have Hg1 := Lib.hid hg1
      have Hx := Lib.hid hx
      clear hdx hx hg1
      go_wp2_with fail
      refine (Hg1.out _).mono ?_
      rintro e w2 ⟨A2, m2, rfl, r2, hm1, hm2, hb2⟩
      replace hb2 := ((Below.refl wr.heap.size wr).alloc (Nat.le_refl _) (.cells #[.int .i64 x.a, .int .i64 x.b, .int .i64 x.c, .slice x.A x.n x.m] 39)).trans (hb2.mono (by simp))
      replace r2 := r2.mono (ok' := (wr.heap.size ≤ ·)) fun b hb => by simp at hb; omega
      have ro2 := Ro1.out.below hb2
      have hz2 := hb2.size
      have hz1 := Hb.out.size
      have R2 := Lib.hid r2
      have Ro2 := Lib.hid ro2
      have Hb2 := Lib.hid hb2
      clear r2 ro2 hb2
      go_wp2_with (at_builtin; refine wpList_append_any (news := [.int .i64 x.a, .int .i64 x.b, .int .i64 x.c, .slice A2 x.n m2]) _ Tryd.underlying29 ent_elem rfl (by omega) rfl rfl rfl (Ro2.out.alloc _).ow rfl (show Rd (w2.alloc (.cells #[.int .i64 x.a, .int .i64 x.b, .int .i64 x.c, .slice A2 x.n m2] 39)) T 4 (some ⟨w2.heap.size, 0, none⟩) 1 [.int .i64 x.a, .int .i64 x.b, .int .i64 x.c, .slice A2 x.n m2] from (Rd.lit4 _ _ rfl)) (by intro u hu; simp only [List.mem_cons, List.not_mem_nil, or_false] at hu; rcases hu with rfl | rfl | rfl | rfl <;> rfl) (by omega) (by simp; omega) rfl rfl ?_; intro A3 c3' w3 hown3 hg3 hat3)
      have hpush := (Ro2.out.alloc (.cells #[.int .i64 x.a, .int .i64 x.b, .int .i64 x.c, .slice A2 x.n m2] 39)).push (y := ⟨x.a, x.b, x.c, A2, x.n, m2, x.d⟩) ((R2.out.alloc _).mono fun b hb => ⟨by omega, fun e => by have := own_lt Ro1.out.ow b e; omega⟩) hm1 hm2 rfl hown3 hg3 hat3
      have hsm2 : Same (L.take (j + 1)) (L' ++ [⟨x.a, x.b, x.c, A2, x.n, m2, x.d⟩]) := by
        unfold Same
        rw [List.take_add_one, Hx.out, List.map_append, List.map_append, Sm.out]
        rfl
      have hb3 := (((Hb.out.trans (Hb2.out.mono Hb.out.size)).alloc (by omega) (.cells #[.int .i64 x.a, .int .i64 x.b, .int .i64 x.c, .slice A2 x.n m2] 39))).grown hg3 (by simp; omega) (fun q hq => (own_lt Ro1.out.ow q hq).1)
      go_roundg (n - (j + 1))
      case measure => have := Hm.out; omega
      case rel => exact ⟨j + 1, A3, c3', _, rfl, by omega, by go_num, rfl, hpush, hsm2, hb3⟩
    · obtain rfl : j = n := by omega
      go_wp2_with fail
      go_ret
      exact ⟨A', c', L', rfl, Ro1.out, by have := Sm.out; rwa [List.take_of_length_le (Nat.le_of_eq Hll.out)] at this, Hb.out⟩
end Go.Proofs.YtefjejlpbfbpcaaDoor
