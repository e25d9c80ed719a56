/- The document's Way. -/
import Derived.Test.YtckpinnnmafdgaaDoorRfT
import Derived.Deep.LoopGhost
namespace Go.Proofs.YtckpinnnmafdgaaDoor
open Go.RowKit
set_option maxRecDepth 100000
set_option linter.unusedVariables false
set_option linter.unusedSimpArgs false
theorem pair_elem : Elem Tryd.prog 66 (.agg #[.int .i64 0, .int .i64 0]) 2 16 := by unfold Elem; kernel_rfl
theorem prc_one (l : List Pr) : ∀ u ∈ flat prc l, u.oneCell' = true := by
  intro u hu
  unfold flat at hu
  obtain ⟨x, _, hx⟩ := List.mem_flatMap.1 hu
  simp only [prc, List.mem_cons, List.not_mem_nil, or_false] at hx
  rcases hx with rfl | rfl <;> rfl
def offW (a b : Int) (l : List Pr) : List Pr := l.filter fun x => !onW a b x
theorem offW_len (a b : Int) (l : List Pr) : (offW a b l).length ≤ l.length := List.length_filter_le _ _
theorem offW_snoc (a b : Int) (l : List Pr) (x : Pr) : offW a b (l ++ [x]) = if onW a b x then offW a b l else offW a b l ++ [x] := by
  unfold offW
  rw [List.filter_append]
  by_cases h : onW a b x = true
  · simp [h]
  · have h' : onW a b x = false := by simpa using h
    simp [h']
set_option maxHeartbeats 1600000 in
theorem wayR_bad (r : Rn) (a b : Int) (off : Bool) (w : World) (h : okP a = false ∨ (okP a = true ∧ okP b = false)) :
    Calls Tryd.prog 18 #[rnA r, .int .i64 a, .int .i64 b, .bool off] w (RfS w (.tuple #[rnA r, .int .i64 1])) := by
  have ha := fun W => placeR_any a W
  have hb := fun W => placeR_any b W
  generalize okP a = qa at ha h
  generalize okP b = qb at hb h
  obtain ⟨lim, last, LA, ln, lc, l, CA, cn, cc, cuts⟩ := r
  unfold rnA
  dsimp only
  obtain ⟨W0, hW0⟩ : ∃ W0, W0 = (w.alloc (.cells #[.int .i64 lim, .int .i64 last, .slice LA ln lc, .slice CA cn cc] 46)).alloc (.cells #[.int .i64 0, .int .i64 0, .slice none 0 0, .slice none 0 0] 46) := ⟨_, rfl⟩
  have b0 : Bx W0 w.heap.size #[.int .i64 lim, .int .i64 last, .slice LA ln lc, .slice CA cn cc] := by subst hW0; exact (Bx.new _ _ _ rfl).alloc _
  have b1 : Bx W0 (w.heap.size + 1) #[.int .i64 0, .int .i64 0, .slice none 0 0, .slice none 0 0] := by subst hW0; exact Bx.new _ _ _ (by simp)
  have hbe : Below w.heap.size w W0 := by subst hW0; exact ((Below.refl _ _).alloc (Nat.le_refl _) _).alloc (by simp) _
  obtain ⟨k0, k1, k2, k3, -⟩ := b0.c4
  obtain ⟨r0, r1, r2, r3, f0, f1, f2, f3⟩ := b1.c4
  have Ha := Lib.hid ha
  have Hb := Lib.hid hb
  have Hbe := Lib.hid hbe
  have HW := Lib.hid hW0
  clear ha hb b0 b1 hbe hW0
  rcases h with rfl | ⟨rfl, rfl⟩
  · go_enter Tryd.func18, Tryd.ntmps18
    go_wp2_with fail
    rw [← HW.out]
    refine (Ha.out _).mono ?_
    rintro e w1 ⟨rfl, rfl⟩
    go_wp2_with fail
    refine bodyPost_ret (by simp [results, Tryd.results18, go_sem, r0, r1, r2, r3]; rfl) rfl ?_
    exact ⟨rfl, below_four Hbe.out (by omega) _ _ _ _⟩
  · go_enter Tryd.func18, Tryd.ntmps18
    go_wp2_with fail
    rw [← HW.out]
    refine (Ha.out _).mono ?_
    rintro e w1 ⟨rfl, rfl⟩
    go_wp2_with fail
    refine (Hb.out _).mono ?_
    rintro e w1 ⟨rfl, rfl⟩
    go_wp2_with fail
    refine bodyPost_ret (by simp [results, Tryd.results18, go_sem, r0, r1, r2, r3]; rfl) rfl ?_
    exact ⟨rfl, below_four Hbe.out (by omega) _ _ _ _⟩
def wayL (a b : Int) (off : Bool) (l : List Pr) : List Pr := offW a b l ++ if off then [⟨a, b⟩] else []
def WayRY (w : World) (ok : Nat → Prop) (r : Rn) (a b : Int) (off : Bool) (e : Ending) (w' : World) : Prop := ∃ CA' cn' cc', e = .returned (.tuple #[rnA { r with CA := CA', cn := cn', cc := cc', cuts := wayL a b off r.cuts }, .int .i64 0]) ∧ RN w' (fun b => ok b ∨ w.heap.size ≤ b) { r with CA := CA', cn := cn', cc := cc', cuts := wayL a b off r.cuts } ∧ cn' ≤ r.cn + 1 ∧ Below w.heap.size w w'
theorem wayR_end {w w5 W' : World} {ok : Nat → Prop} {lim last : Int} {LA CA Q : Option Addr} {ln lc cn cc m cq B : Nat} {l : List Ic} {cuts : List Pr} {a b : Int} {off : Bool}
    (hrl : RN w (fun b => ok b ∧ b < w.heap.size) ⟨lim, last, LA, ln, lc, l, CA, cn, cc, cuts⟩) (ho : w5.ownsRow B 66 2 (.slice Q m cq) m (flat prc (wayL a b off cuts))) (hB : w.heap.size + 2 ≤ B) (hm : m ≤ cn + 1) (hcn : cn ≤ 4000)
    (hk : ∀ b, w.heap.size + 2 ≤ b → W'.heap[b]? = w5.heap[b]?) (hbe : Below w.heap.size w W') :
    WayRY w ok ⟨lim, last, LA, ln, lc, l, CA, cn, cc, cuts⟩ a b off (.returned (.tuple #[.agg #[.int .i64 lim, .int .i64 last, .slice LA ln lc, .slice Q m cq], .int .i64 0])) W' := by
  have hko : ∀ b, b < w.heap.size → W'.heap[b]? = w.heap[b]? := fun b hb => hbe.block b hb
  refine ⟨Q, m, cq, rfl, ⟨?_, fun x hx => ?_, ?_, hrl.c1, hrl.n1, ?_⟩, hm, hbe⟩
  · exact (hrl.it.keep fun b hb _ => hko b hb.2).mono fun b hb => .inl hb.1
  · have := hrl.dt x hx
    exact ⟨(this.1.keep fun b hb _ => hko b hb.2).mono fun b hb => .inl hb.1, this.2⟩
  · exact ((Rd.of_own ho).keep (w' := W') (fun b hb _ => hk b (by omega))).mono fun b hb => .inr (by omega)
  · show m ≤ 4096
    omega
set_option maxHeartbeats 3200000 in
theorem wayR_yes (r : Rn) (a b : Int) (off : Bool) (w : World) {ok : Nat → Prop} (hr : RN w ok r) (ha : okP a = true) (hb : okP b = true) (hcn : r.cn ≤ 4000) :
    Calls Tryd.prog 18 #[rnA r, .int .i64 a, .int .i64 b, .bool off] w (WayRY w ok r a b off) := by
  have hpa := fun W => placeR_any a W
  have hpb := fun W => placeR_any b W
  rw [ha] at hpa
  rw [hb] at hpb
  have hrl := hr.lt
  have hcl := hr.clen
  obtain ⟨lim, last, LA, ln, lc, l, CA, cn, cc, cuts⟩ := r
  unfold rnA
  dsimp only at hcl hcn ⊢
  obtain ⟨W0, hW0⟩ : ∃ W0, W0 = (w.alloc (.cells #[.int .i64 lim, .int .i64 last, .slice LA ln lc, .slice CA cn cc] 46)).alloc (.cells #[.int .i64 0, .int .i64 0, .slice none 0 0, .slice none 0 0] 46) := ⟨_, rfl⟩
  have b0 : Bx W0 w.heap.size #[.int .i64 lim, .int .i64 last, .slice LA ln lc, .slice CA cn cc] := by subst hW0; exact (Bx.new _ _ _ rfl).alloc _
  have b1 : Bx W0 (w.heap.size + 1) #[.int .i64 0, .int .i64 0, .slice none 0 0, .slice none 0 0] := by subst hW0; exact Bx.new _ _ _ (by simp)
  have hbe : Below w.heap.size w W0 := by subst hW0; exact ((Below.refl _ _).alloc (Nat.le_refl _) _).alloc (by simp) _
  have hz0 : W0.heap.size = w.heap.size + 2 := by subst hW0; simp
  have hz0' : w.heap.size + 2 ≤ W0.heap.size := by omega
  obtain ⟨k0, k1, k2, k3, -⟩ := b0.c4
  have Ha := Lib.hid hpa
  have Hb := Lib.hid hpb
  have B0 := Lib.hid b0
  have B1 := Lib.hid b1
  have Hbe := Lib.hid hbe
  have HW := Lib.hid hW0
  have Hrl := Lib.hid hrl
  have Hcl := Lib.hid hcl
  have Hone := Lib.hid (fun x => prc_one [x])
  have Hone1 := Lib.hid (prc_one [⟨a, b⟩])
  clear hpa hpb b0 b1 hbe hW0 ha hb hrl hr hcl hz0
  go_enter Tryd.func18, Tryd.ntmps18
  go_wp2_with fail
  rw [← HW.out]
  refine (Ha.out _).mono ?_
  rintro e w1 ⟨rfl, rfl⟩
  go_wp2_with fail
  refine (Hb.out _).mono ?_
  rintro e w1 ⟨rfl, rfl⟩
  go_wp2_with fail
  clear k0 k1 k2 k3
  go_loopg [10, 11] cn (fun mu s10 s11 wr => ∃ k Q m cq, mu = cn - k ∧ k ≤ cn ∧ m ≤ k ∧ s10 = .slice Q m cq ∧ s11 = .int .i64 (k : Nat) ∧ wr.ownsRow W0.heap.size 66 2 (.slice Q m cq) m (flat prc (offW a b (cuts.take k))) ∧ Below W0.heap.size W0 wr)
  case atStart => exact ⟨0, none, 0, 0, by omega, by omega, by omega, rfl, rfl, own_nil _ _ _ _ _ rfl, Below.refl _ _⟩
  case round =>
    obtain ⟨k, Q, m, cq, hmu, hk, hmk, rfl, rfl, hown, hbe⟩ := hrel
    have Hmu := Lib.hid hmu
    have Hown := Lib.hid hown
    have Hb0 := Lib.hid hbe
    have hbW := Hbe.out.trans (hbe.mono (by omega))
    obtain ⟨k0, k1, k2, k3, g0, g1, g2, g3⟩ := (B0.out.below hbe).c4
    obtain ⟨wq, rfl⟩ : ∃ wq, wq = wr := ⟨_, rfl⟩
    by_cases hlt : k < cn
    · obtain ⟨bb, o, x, hCA, -, hbl, hx, c0, c1⟩ := pr_cells (Hrl.out.ct.below hbW) hlt
      dsimp only at hCA
      subst hCA
      have hsn : cuts.take (k + 1) = cuts.take k ++ [x] := by
        obtain ⟨h1, h2⟩ := List.getElem?_eq_some_iff.1 hx
        rw [List.take_succ_eq_append_getElem h1, h2]
      have he1 := pair_eq x.a x.b a b
      have he2 := pair_eq x.a x.b b a
      obtain ⟨q1, hq1⟩ : ∃ q1, q1 = (x.a == a && x.b == b) := ⟨_, rfl⟩
      obtain ⟨q2, hq2⟩ : ∃ q2, q2 = (x.a == b && x.b == a) := ⟨_, rfl⟩
      rw [← hq1] at he1
      rw [← hq2] at he2
      have hon : onW a b x = (q1 || q2) := by unfold onW; rw [hq1, hq2]
      have hst := offW_snoc a b (cuts.take k) x
      rw [← hsn, hon] at hst
      have Hst := Lib.hid hst
      have hkI : (k : Int) < cn := by omega
      clear hsn hx hq1 hq2 hon hst hmu hown hbe hbW
      rcases Bool.eq_false_or_eq_true q1 with rfl | rfl
      · go_wp2_with fail
        go_roundg (cn - (k + 1))
        case measure => have := Hmu.out; omega
        case rel => exact ⟨k + 1, Q, m, cq, rfl, by omega, by omega, rfl, by go_num, by rw [Hst.out]; exact Hown.out, Hb0.out⟩
      rcases Bool.eq_false_or_eq_true q2 with rfl | rfl
      · go_wp2_with fail
        go_roundg (cn - (k + 1))
        case measure => have := Hmu.out; omega
        case rel => exact ⟨k + 1, Q, m, cq, rfl, by omega, by omega, rfl, by go_num, by rw [Hst.out]; exact Hown.out, Hb0.out⟩
      · go_wp2_with (at_builtin; go_must (refine wpList_append_any _ Tryd.underlying44 pair_elem rfl (by omega) rfl rfl rfl (Hown.out.alloc _) rfl (Rd.blit (cs := #[.int .i64 x.a, .int .i64 x.b]) rfl).any (Hone.out x) (by omega) (by have := Hb0.out.size; simp; omega) rfl rfl ?_); intro Q2 cq2 w2 hown2 hg2 hat2; have Hown2 := Lib.hid hown2; have hrow := own_lt Hown.out; have hb2 : Below W0.heap.size W0 w2 := (Hb0.out.alloc Hb0.out.size _).grown hg2 (by have := Hb0.out.size; simp; omega) (fun g hg => (hrow g hg).1); have Hb2 := Lib.hid hb2; clear hown2 hg2 hat2 hrow hb2)
        go_roundg (cn - (k + 1))
        case measure => have := Hmu.out; omega
        case rel =>
          refine ⟨k + 1, Q2, m + 1, cq2, rfl, by omega, by omega, rfl, by go_num, ?_, Hb2.out⟩
          have h := Hown2.out
          rw [Hst.out]
          simp only [Bool.or_self, Bool.false_eq_true, if_false, flat_append, flat_one]
          exact h
    · have hd : decide ((k : Int) < (cn : Int)) = false := by simp; omega
      have hkc : k = cn := by omega
      have ho := Hown.out
      rw [List.take_of_length_le (by have := Hcl.out; omega)] at ho
      have Ho := Lib.hid ho
      have Hsz := Lib.hid (Nat.le_trans hz0' hbe.size)
      clear hmu hown hbe hbW ho hkc Hown
      obtain ⟨r0, r1, r2, r3, f0, f1, f2, f3⟩ := (B1.out.below Hb0.out).c4
      have hn3 : ¬ w.heap.size + 1 = w.heap.size := by omega
      cases off with
      | false =>
        go_wp2_with fail
        refine bodyPost_ret (by simp [results, Tryd.results18, go_sem, r0, r1, r2, r3]; rfl) rfl ?_
        have hb5 := (Hbe.out.trans (Hb0.out.mono (by omega))).setCell (p := ⟨w.heap.size, 3, none⟩) (Nat.le_refl _) (.slice Q m cq)
        refine wayR_end Hrl.out (B := W0.heap.size) (w5 := wq) (by unfold wayL; simpa using Ho.out) hz0' (by omega) hcn (fun b hb => ?_) (below_four hb5 (by omega) _ _ _ _)
        have hg1 : b ≠ w.heap.size + 1 := by omega
        have hg2 : b ≠ w.heap.size := by omega
        rw [four_heap hg1, Below.heap_setCell _ _ _ b hg2]
      | true =>
        go_wp2_with (at_builtin; go_must (refine wpList_append_any _ Tryd.underlying44 pair_elem rfl (by omega) rfl rfl rfl (Ho.out.alloc _) rfl (Rd.blit (cs := #[.int .i64 a, .int .i64 b]) rfl).any Hone1.out (by omega) (by have := Hb0.out.size; simp; omega) rfl rfl ?_); intro Q2 cq2 w2 hown2 hg2 hat2; have Hown2 := Lib.hid hown2; have hrow := own_lt Ho.out; have hb2 : Below W0.heap.size W0 w2 := (Hb0.out.alloc Hb0.out.size _).grown hg2 (by have := Hb0.out.size; simp; omega) (fun g hg => (hrow g hg).1); have Hb2 := Lib.hid hb2; obtain ⟨n0, n1, n2, n3, h0, h1, h2, h3⟩ := (B0.out.below hb2).c4; obtain ⟨t0, t1, t2, t3, u0, u1, u2, u3⟩ := (B1.out.below hb2).c4; clear hown2 hg2 hat2 hrow hb2 k0 k1 k2 k3 g0 g1 g2 g3 r0 r1 r2 r3 f0 f1 f2 f3)
        refine bodyPost_ret (by simp [results, Tryd.results18, go_sem, t0, t1, t2, t3]; rfl) rfl ?_
        have hb5 := (Hbe.out.trans (Hb2.out.mono (by omega))).setCell (p := ⟨w.heap.size, 3, none⟩) (Nat.le_refl _) (.slice Q2 (m + 1) cq2)
        have h5 := Hown2.out
        refine wayR_end Hrl.out (B := W0.heap.size) (w5 := w2) (by unfold wayL; rw [if_pos rfl, flat_append, flat_one]; exact h5) hz0' (by omega) hcn (fun b hb => ?_) (below_four hb5 (by omega) _ _ _ _)
        have hg1 : b ≠ w.heap.size + 1 := by omega
        have hg2 : b ≠ w.heap.size := by omega
        rw [four_heap hg1, Below.heap_setCell _ _ _ b hg2]
end Go.Proofs.YtckpinnnmafdgaaDoor
