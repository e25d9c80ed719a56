/- Walk: tollbarlaw13.RaftMoves -/
import Derived.Test.YtmhaahcbmdhinaaGreatDoorZM37
namespace Go.Proofs.YtmhaahcbmdhinaaGreatDoor
open Go.RowKit
set_option maxRecDepth 100000
set_option linter.unusedVariables false
set_option linter.unusedSimpArgs false
structure MvI (fb : Nat) (w wr : World) (n gb i : Nat) (p : Nat → Nat) (g : Gs) : Prop where
 gi : GrIs fb wr n gb 4 p g (fun b => b < fb)
 ok : GOk n (1 + 60 * i) g
 dn : ∀ k, k < 7 → g.done k = []
 kf : KeepF (fun b => b < fb) w wr
theorem MvI.below {fb : Nat} {w wr W : World} {n gb i : Nat} {p : Nat → Nat} {g : Gs} (h : MvI fb w wr n gb i p g) (hb : Below wr.heap.size wr W) : MvI fb w W n gb i p g :=
 ⟨h.gi.below hb, h.ok, h.dn, h.kf.trans (KeepF.of_below hb h.gi.fin)⟩
set_option maxHeartbeats 25600000 in
theorem moves_walk (size : Int) (A : Option Addr) (m c : Nat) (L : List De) (w : World) (hr : Rd w T 4 A m (flat dcell L)) (ht : TabW w) (hv : EvW w w.heap.size) :
    Calls Tryz.prog 6 #[.int .i64 size, .slice A m c] w (YesPost w) := by
  have he : Env w.heap.size w := ⟨w, rfl, hv, ht, Below.refl _ _⟩
  obtain ⟨v, hv5, _, hvt, _⟩ := umod_n size (n := 5) (by omega) (by omega)
  have hvt' : (IntKind.u64.wrap size).tmod 5 = (v : Int) := hvt
  obtain ⟨n, hn⟩ : ∃ n, n = 1 + v := ⟨_, rfl⟩
  have hnw : IntKind.i64.wrap (1 + (v : Int)) = (n : Int) := by rw [IntKind.wrap_i64]; omega
  have hrl := hr.lt (by omega)
  have H := Lib.hid (And.intro he (And.intro hrl (show 1 ≤ n ∧ n ≤ 5 by omega)))
  clear he hr ht hv hvt hrl hn hv5
  go_enter Tryz.func6, Tryz.ntmps6
  go_wp2_with fail
  refine (laidg_any n w H.out.1 H.out.2.2).mono ?_
  rintro e w1 ⟨gb, p, g0, rfl, hg0, hf0, hb0⟩
  have hG : MvI w.heap.size w w1 n gb 0 p g0 := ⟨hg0, fun i hi => by rw [hf0.c i hi]; exact Cr.Ok.new (st0_may H.out.2.2) (by show (0 : Nat) ≤ _; omega) (by have := H.out.2.2; omega) (by decide), hf0.done, KeepF.of_below hb0 fun b hb => hb⟩
  have K := Lib.hid hG
  clear hg0 hf0 hb0 hG
  go_wp2_with fail
  go_loopg [7, 8, 9, 10, 11, 12, 13, 14] m (fun gm s7 s8 s9 s10 s11 s12 s13 s14 wr => ∃ (i : Nat) (p : Nat → Nat) (g : Gs), gm = m - i ∧ i ≤ m ∧ i ≤ 80 ∧ s7 = .int .i64 i ∧ MvI w.heap.size w wr n gb i p g)
  case atStart => exact ⟨0, p, g0, by omega, by omega, by omega, rfl, K.out⟩
  case round =>
    obtain ⟨i, p, g, hm, hi, hi80, rfl, hI⟩ := hrel
    have R := Lib.hid (And.intro hm hI)
    clear hm hI
    by_cases hlt : i < m
    · have hjI : decide ((i : Int) < (m : Int)) = true := decide_eq_true (by omega)
      have hjN : decide (i < m) = true := decide_eq_true hlt
      by_cases h80 : i < 80
      · have h8I : decide ((i : Int) < 80) = true := decide_eq_true (by omega)
        have h8N : decide (i < 80) = true := decide_eq_true h80
        have hjw : IntKind.i64.wrap ((i : Int) + 1) = (i : Int) + 1 := by rw [IntKind.wrap_i64]; omega
        rename World => wa
        go_upto_region 9 with (fail)
        obtain ⟨W3, hW3⟩ : ∃ W3, W3 = ((wa.alloc (.cells (arr7 (fun q => (g.C q).s.tm) 0) 85)).alloc (.cells (arr7 (fun q => (g.C q).s.vt) 0) 85)).alloc (.cells (arr7 (fun q => (g.C q).commit) 0) 85) := ⟨_, rfl⟩
        have b3 : Below wa.heap.size wa W3 := by subst hW3; exact (((Below.refl _ _).alloc (Nat.le_refl _) _).alloc (by simp) _).alloc (by simp; omega) _
        have z1 : Bx W3 wa.heap.size (arr7 (fun q => (g.C q).s.tm) 0) := by subst hW3; exact ((Bx.new _ _ _ rfl).alloc _).alloc _
        have z2 : Bx W3 (wa.heap.size + 1) (arr7 (fun q => (g.C q).s.vt) 0) := by subst hW3; exact (Bx.new _ _ _ (by simp)).alloc _
        have z3 : Bx W3 (wa.heap.size + 1 + 1) (arr7 (fun q => (g.C q).commit) 0) := by subst hW3; exact Bx.new _ _ _ (by simp)
        have HW3 := hW3
        simp only [arr_zero] at HW3
        rw [← HW3]
        clear HW3 hW3
        have Z := Lib.hid (And.intro b3 (And.intro z1 (And.intro z2 z3)))
        clear b3 z1 z2 z3
        go_wp2_with fail
        go_loopg [11, 12] n (fun gm s11 s12 wr => ∃ j : Nat, gm = n - j ∧ j ≤ n ∧ s11 = .int .i64 j ∧ Below wa.heap.size wa wr ∧ Bx wr wa.heap.size (arr7 (fun q => (g.C q).s.tm) j) ∧ Bx wr (wa.heap.size + 1) (arr7 (fun q => (g.C q).s.vt) j) ∧ Bx wr (wa.heap.size + 1 + 1) (arr7 (fun q => (g.C q).commit) j))
        case atStart => exact ⟨0, by omega, by omega, rfl, Z.out.1, Z.out.2.1, Z.out.2.2.1, Z.out.2.2.2⟩
        case round =>
          obtain ⟨j, hm, hj, rfl, hb, y1, y2, y3⟩ := hrel
          have Y := Lib.hid (And.intro hm (And.intro hb (And.intro y1 (And.intro y2 y3))))
          clear hm hb y1 y2 y3
          by_cases hjn : j < n
          · have hgI : decide ((j : Int) < (n : Int)) = true := decide_eq_true (by omega)
            have hgN : decide (j < n) = true := decide_eq_true hjn
            have hjw2 : IntKind.i64.wrap ((j : Int) + 1) = (j : Int) + 1 := by have := H.out.2.2; rw [IntKind.wrap_i64]; omega
            have hj7n : j < 7 := by have := H.out.2.2; omega
            have h0j : (0 : Int) ≤ (j : Int) := by omega
            have hj7 : (j : Int) < 7 := by have := H.out.2.2; omega
            have hg4 := R.out.2.gi.below Y.out.2.1
            have cgj := hg4.ptr hjn (by have := H.out.2.2; omega)
            have hgl := R.out.2.gi.lt
            have G4 := Lib.hid (And.intro hg4 hgl)
            clear hg4 hgl
            go_wp2_with fail
            refine (gstored_any G4.out.1 hjn (R.out.2.ok j hjn)).mono ?_
            rintro e w5 ⟨s', rfl, ha, hs, b5⟩
            have hval : s'.val = .agg #[.int .i64 s'.tm, .int .i64 s'.vt, .int .i64 s'.b, .int .i64 s'.t, .slice s'.A s'.n s'.c, .slice s'.C s'.nc s'.cc, .slice s'.S s'.ns s'.cs] := rfl
            rw [hval]
            clear hval
            go_upto_region 13 with (fail)
            obtain ⟨W6, hW6⟩ : ∃ W6, W6 = w5.alloc (.cells #[.int .i64 s'.tm, .int .i64 s'.vt, .int .i64 s'.b, .int .i64 s'.t, .slice s'.A s'.n s'.c, .slice s'.C s'.nc s'.cc, .slice s'.S s'.ns s'.cs] 41) := ⟨_, rfl⟩
            have x6 : Bx W6 w5.heap.size #[.int .i64 s'.tm, .int .i64 s'.vt, .int .i64 s'.b, .int .i64 s'.t, .slice s'.A s'.n s'.c, .slice s'.C s'.nc s'.cc, .slice s'.S s'.ns s'.cs] := by subst hW6; exact Bx.new _ _ _ rfl
            have b6 : Below wr.heap.size wr W6 := by subst hW6; exact b5.alloc b5.size _
            rw [← hW6]
            clear hW6 cgj
            have hst : s'.tm = (g.C j).s.tm ∧ s'.vt = (g.C j).s.vt := by rw [← hs]; exact ⟨rfl, rfl⟩
            rw [hst.1, hst.2] at x6 
            have hzr : wa.heap.size + 3 ≤ wr.heap.size := by have := Y.out.2.2.2.2.lt; omega
            have h56 : wr.heap.size ≤ w5.heap.size := b5.size
            have X := Lib.hid (And.intro x6 (And.intro b6 (And.intro hzr h56)))
            have C6 := Lib.hid (x6.c 0)
            have F8 : Hid (∀ W, Kept (fun b => b = wa.heap.size ∨ b = wa.heap.size + 1 ∨ b = wa.heap.size + 1 + 1) W6 W → W.cell? ⟨w5.heap.size, 0, none⟩ = some (.int .i64 (g.C j).s.tm) ∧ W.cell? ⟨w5.heap.size, 1, none⟩ = some (.int .i64 (g.C j).s.vt) ∧ W.cell? ⟨gb, j, none⟩ = some (.pointer (some ⟨p j, 0, none⟩))) := Lib.hid fun W hk => by
              have hx := hk.bx X.out.1 (fun e => by omega)
              refine ⟨hx.c 0, hx.c 1, ?_⟩
              have h9 := (G4.out.1.below X.out.2.1).ptr hjn (by have := H.out.2.2; omega)
              have hl := (G4.out.1.below X.out.2.1).lt
              unfold World.cell? at h9 ⊢
              rw [hk.block gb hl (fun e => by have := G4.out.2; omega)]
              exact h9
            clear x6 b6 ha hs hst b5
            refine wp_region_S 20 (fun W => Kept (fun b => b = wa.heap.size ∨ b = wa.heap.size + 1 ∨ b = wa.heap.size + 1 + 1) W6 W) (.take 0 (.take 1 (.take 2 (.take 3 (.take 4 (.take 5 (.take 6 (.take 7 (.take 8 (.take 9 (.take 10 (.take 11 (.take 12 (.take 15 (.one 13 (.take 14 (.one 16 (.take 17 (.one 18 (.take 19 (.one 20 (.nil)))))))))))))))))))))) (by kernel_rfl) (Kept.refl _ _).drew (fun _ _ _ _ h => h) (fun hS => ?_)
            repeat (first
              | (refine wpS_take (v := ?_) rfl rfl (by rfl) ?_ ?_; rotate_left; (intro W hW; have hf := F8.out W hW; go_split_ands; go_simp; try with_reducible rfl); try simp only [Act.put, lyA, lyB, lyC])
              | (refine wpS_skip rfl rfl (by rfl) ?_; try simp only [Act.put, lyA, lyB, lyC]))
            refine wpS_one rfl (by rfl) (fun K hK => ?_)
            go_simp
            go_at_call 18
            refine (gview_any ((G4.out.1.below X.out.2.1).below ((Below.refl _ _).drew)) hjn).mono ?_
            rintro e w7 ⟨rfl, b7⟩
            have b67 : Below W6.heap.size W6 w7 := ((Below.refl W6.heap.size W6).drew).trans b7
            refine hK (fun W => Kept (fun b => b = wa.heap.size ∨ b = wa.heap.size + 1 ∨ b = wa.heap.size + 1 + 1) W6 W) _ _ (fun _ h => h) (Kept.of_new b67) ?_
            have B7 := Lib.hid b67
            clear hK K hS b7 b67
            try simp only [Act.put, lyA, lyB, lyC]
            unfold Cr.viewV
            have hfv := fldv_commit (g.C j)
            repeat (first
              | (refine wpS_take (v := ?_) rfl rfl (by rfl) ?_ ?_; rotate_left; (intro W hW; have hf := F8.out W hW; go_split_ands; go_simp; try with_reducible rfl); try simp only [Act.put, lyA, lyB, lyC])
              | (refine wpS_skip rfl rfl (by rfl) ?_; try simp only [Act.put, lyA, lyB, lyC]))
            clear hfv
            have b37 : Below wr.heap.size wr w7 := X.out.2.1.trans (B7.out.mono X.out.2.1.size)
            have q1 : Bx w7 wa.heap.size (arr7 (fun q => (g.C q).s.tm) j) := Y.out.2.2.1.below b37
            have q2 : Bx w7 (wa.heap.size + 1) (arr7 (fun q => (g.C q).s.vt) j) := Y.out.2.2.2.1.below b37
            have q3 : Bx w7 (wa.heap.size + 1 + 1) (arr7 (fun q => (g.C q).commit) j) := Y.out.2.2.2.2.below b37
            have Q7 := Lib.hid (And.intro q1 (And.intro q2 (And.intro q3 b37)))
            have c1 : w7.cell? ⟨wa.heap.size, j, none⟩ = some (.int .i64 0) := (q1.c j).trans (arr_at hj7n)
            have f1 := q1.f j
            clear q1 q2 q3 b37
            refine wpS_one rfl (by rfl) (fun K hK => ?_)
            go_simp
            refine hK (fun W => Kept (fun b => b = wa.heap.size ∨ b = wa.heap.size + 1 ∨ b = wa.heap.size + 1 + 1) W6 W) _ _ (fun _ h => h) ((Kept.of_new B7.out).set (p := ⟨wa.heap.size, j, none⟩) (.inl rfl) _) ?_
            clear hK K c1 f1
            try simp only [Act.put, lyA, lyB, lyC]
            obtain ⟨W8, hW8⟩ : ∃ W8, W8 = w7.setCell ⟨wa.heap.size, j, none⟩ (.int .i64 (g.C j).s.tm) := ⟨_, rfl⟩
            rw [← hW8]
            have q1 : Bx W8 wa.heap.size (arr7 (fun q => (g.C q).s.tm) (j + 1)) := by rw [hW8, ← arr_set hj7n]; exact Q7.out.1.set j _
            have q2 : Bx W8 (wa.heap.size + 1) (arr7 (fun q => (g.C q).s.vt) j) := by rw [hW8]; exact Q7.out.2.1.far (by show wa.heap.size + 1 ≠ wa.heap.size; omega) _
            have q3 : Bx W8 (wa.heap.size + 1 + 1) (arr7 (fun q => (g.C q).commit) j) := by rw [hW8]; exact Q7.out.2.2.1.far (by show wa.heap.size + 1 + 1 ≠ wa.heap.size; omega) _
            have k8 : Kept (fun b => b = wa.heap.size ∨ b = wa.heap.size + 1 ∨ b = wa.heap.size + 1 + 1) W6 W8 := by rw [hW8]; exact (Kept.of_new B7.out).set (p := ⟨wa.heap.size, j, none⟩) (.inl rfl) _
            have Q8 := Lib.hid (And.intro q1 (And.intro q2 (And.intro q3 k8)))
            have c2 : W8.cell? ⟨wa.heap.size + 1, j, none⟩ = some (.int .i64 0) := (q2.c j).trans (arr_at hj7n)
            have f2 := q2.f j
            clear hW8 q1 q2 q3 k8
            repeat (first
              | (refine wpS_take (v := ?_) rfl rfl (by rfl) ?_ ?_; rotate_left; (intro W hW; have hf := F8.out W hW; go_split_ands; go_simp; try with_reducible rfl); try simp only [Act.put, lyA, lyB, lyC])
              | (refine wpS_skip rfl rfl (by rfl) ?_; try simp only [Act.put, lyA, lyB, lyC]))
            refine wpS_one rfl (by rfl) (fun K hK => ?_)
            go_simp
            refine hK (fun W => Kept (fun b => b = wa.heap.size ∨ b = wa.heap.size + 1 ∨ b = wa.heap.size + 1 + 1) W6 W) _ _ (fun _ h => h) (Q8.out.2.2.2.set (p := ⟨wa.heap.size + 1, j, none⟩) (.inr (.inl rfl)) _) ?_
            clear hK K c2 f2
            try simp only [Act.put, lyA, lyB, lyC]
            obtain ⟨W9, hW9⟩ : ∃ W9, W9 = W8.setCell ⟨wa.heap.size + 1, j, none⟩ (.int .i64 (g.C j).s.vt) := ⟨_, rfl⟩
            rw [← hW9]
            have q1 : Bx W9 wa.heap.size (arr7 (fun q => (g.C q).s.tm) (j + 1)) := by rw [hW9]; exact Q8.out.1.far (by show wa.heap.size ≠ wa.heap.size + 1; omega) _
            have q2 : Bx W9 (wa.heap.size + 1) (arr7 (fun q => (g.C q).s.vt) (j + 1)) := by rw [hW9, ← arr_set hj7n]; exact Q8.out.2.1.set j _
            have q3 : Bx W9 (wa.heap.size + 1 + 1) (arr7 (fun q => (g.C q).commit) j) := by rw [hW9]; exact Q8.out.2.2.1.far (by show wa.heap.size + 1 + 1 ≠ wa.heap.size + 1; omega) _
            have k9 : Kept (fun b => b = wa.heap.size ∨ b = wa.heap.size + 1 ∨ b = wa.heap.size + 1 + 1) W6 W9 := by rw [hW9]; exact Q8.out.2.2.2.set (p := ⟨wa.heap.size + 1, j, none⟩) (.inr (.inl rfl)) _
            have Q9 := Lib.hid (And.intro q1 (And.intro q2 (And.intro q3 k9)))
            have c3 : W9.cell? ⟨wa.heap.size + 1 + 1, j, none⟩ = some (.int .i64 0) := (q3.c j).trans (arr_at hj7n)
            have f3 := q3.f j
            clear hW9 q1 q2 q3 k9
            repeat (first
              | (refine wpS_take (v := ?_) rfl rfl (by rfl) ?_ ?_; rotate_left; (intro W hW; have hf := F8.out W hW; go_split_ands; go_simp; try with_reducible rfl); try simp only [Act.put, lyA, lyB, lyC])
              | (refine wpS_skip rfl rfl (by rfl) ?_; try simp only [Act.put, lyA, lyB, lyC]))
            refine wpS_last rfl (by rfl) (fun K hK => ?_)
            go_simp
            refine hK _ _ ?_
            clear hK K
            try simp only [Act.put, lyA, lyB, lyC]
            refine wpS_nil ?_
            obtain ⟨W10, hW10⟩ : ∃ W10, W10 = W9.setCell ⟨wa.heap.size + 1 + 1, j, none⟩ (.int .i64 (g.C j).commit) := ⟨_, rfl⟩
            rw [← hW10]
            have q1 : Bx W10 wa.heap.size (arr7 (fun q => (g.C q).s.tm) (j + 1)) := by rw [hW10]; exact Q9.out.1.far (by show wa.heap.size ≠ wa.heap.size + 1 + 1; omega) _
            have q2 : Bx W10 (wa.heap.size + 1) (arr7 (fun q => (g.C q).s.vt) (j + 1)) := by rw [hW10]; exact Q9.out.2.1.far (by show wa.heap.size + 1 ≠ wa.heap.size + 1 + 1; omega) _
            have q3 : Bx W10 (wa.heap.size + 1 + 1) (arr7 (fun q => (g.C q).commit) (j + 1)) := by rw [hW10, ← arr_set hj7n]; exact Q9.out.2.2.1.set j _
            have k10 : Kept (fun b => b = wa.heap.size ∨ b = wa.heap.size + 1 ∨ b = wa.heap.size + 1 + 1) W6 W10 := by rw [hW10]; exact Q9.out.2.2.2.set (p := ⟨wa.heap.size + 1 + 1, j, none⟩) (.inr (.inr rfl)) _
            have b10 : Below wa.heap.size wa W10 := (Y.out.2.1.trans (X.out.2.1.mono (by have := X.out.2.2.1; omega))).trans (k10.below (fun b hb => by rcases hb with h | h | h <;> omega) (by have := X.out.2.2.1; have := X.out.2.1.size; omega))
            have Q10 := Lib.hid (And.intro q1 (And.intro q2 (And.intro q3 b10)))
            clear hW10 q1 q2 q3 k10 b10 c3 f3
            go_wp2_with fail
            go_roundg (n - (j + 1))
            case measure => have := Y.out.1; omega
            case rel => exact ⟨j + 1, rfl, by omega, by go_num, Q10.out.2.2.2, Q10.out.1, Q10.out.2.1, Q10.out.2.2.1⟩

          · have hgI : decide ((j : Int) < (n : Int)) = false := decide_eq_false (by omega)
            have hgN : decide (j < n) = false := decide_eq_false hjn
            obtain rfl : j = n := by omega
            have hn7 : j ≤ 7 := by have := H.out.2.2; omega
            have hwfb : w.heap.size ≤ wa.heap.size := R.out.2.kf.size
            have hzr : wa.heap.size + 3 ≤ wr.heap.size := by have := Y.out.2.2.2.2.lt; omega
            have hfg : GrIs w.heap.size wr j gb 4 p g (fun b => b < w.heap.size ∨ (wa.heap.size ≤ b ∧ b < wr.heap.size)) := R.out.2.gi.more_f (by have := H.out.2.2; omega) Y.out.2.1 fun b hb => hb
            have hrow : Rd wr (fun b => b < w.heap.size) 4 A m (flat dcell L) := ((H.out.2.1.mono (ok' := fun b => b < w.heap.size) fun b hb => hb.2).keep fun b hb _ => R.out.2.kf.block b hb).below Y.out.2.1
            obtain ⟨bb, oo, dd, rfl, hbb, _, hdd, hdc⟩ := hrow.fat dcell_len (by omega) hlt
            have d0 := hdc 0 _ rfl
            have d1 := hdc 1 _ rfl
            have d2 := hdc 2 _ rfl
            have d3 := hdc 3 _ rfl
            have h0i : (0 : Int) ≤ (i : Int) := by omega
            have him : (i : Int) < (m : Int) := by omega
            have d0' : wr.cell? ⟨bb, oo + i * 4, none⟩ = some (.int .i64 dd.kd) := d0
            have d1' : wr.cell? ⟨bb, oo + i * 4 + 1, none⟩ = some (.int .i64 dd.who) := d1
            have d2' : wr.cell? ⟨bb, oo + i * 4 + 2, none⟩ = some (.int .i64 dd.N) := d2
            have d3' : wr.cell? ⟨bb, oo + i * 4 + 3, none⟩ = some (.int .i64 dd.draw) := d3
            have DD := Lib.hid (And.intro hfg (And.intro hrow (And.intro hbb (And.intro hwfb (And.intro hzr d0)))))
            clear hdd hdc d0 d1 d2 d3 hfg hrow hbb hwfb hzr
            go_wp2_with fail
            refine (deed_any dd.kd dd.who dd.N dd.draw DD.out.1 R.out.2.ok (by omega) (by have := H.out.2.2; omega) (fun k hk => by rw [R.out.2.dn k hk]; exact Nat.zero_le _) (by decide)).mono ?_
            rintro e w2 ⟨rfl, g', p', hg', hok', hR, hk'⟩
            have hbx1 := hk'.bx Y.out.2.2.1 (.inr ⟨by omega, by have := DD.out.2.2.2.2.1; omega⟩)
            have hbx2 := hk'.bx Y.out.2.2.2.1 (.inr ⟨by omega, by have := DD.out.2.2.2.2.1; omega⟩)
            have hbx3 := hk'.bx Y.out.2.2.2.2 (.inr ⟨by omega, by have := DD.out.2.2.2.2.1; omega⟩)
            have hdk : w2.cell? ⟨bb, oo + i * 4, none⟩ = some (.int .i64 dd.kd) := by
              have h9 := DD.out.2.2.2.2.2
              unfold World.cell? at h9 ⊢
              rw [hk'.block bb (.inl DD.out.2.2.1)]
              exact h9
            have hdn : ∀ k, k < 7 → g'.done k = [] := fun k hk => by
              have h9 : g'.done = g.done := by
                rcases hR with ⟨_, who, draw, _, rfl⟩ | ⟨_, hd⟩
                · rfl
                · exact hd.done.1
              rw [h9]; exact R.out.2.dn k hk
            have hI2 : MvI w.heap.size w w2 j gb (i + 1) p' g' := ⟨hg'.less_f fun b hb => .inl hb, by have e : 1 + 60 * (i + 1) = 1 + 60 * i + 60 := by omega
                                                                                                      rw [e]; exact hok', hdn, (R.out.2.kf.trans (KeepF.of_below Y.out.2.1 fun b hb => Nat.lt_of_lt_of_le hb DD.out.2.2.2.1)).trans (hk'.mono fun b hb => .inl hb)⟩
            have hmv : ∀ q, q < j → ((g.C q).s.tm < (g'.C q).s.tm ∨ ((g'.C q).s.tm = (g.C q).s.tm ∧ ((g.C q).s.vt ≠ 0 → (g'.C q).s.vt = (g.C q).s.vt))) ∧ ((IntKind.u64.wrap dd.kd).tmod 17 ≠ 15 → (g.C q).commit ≤ (g'.C q).commit) := fun q hq => by
              rcases hR with ⟨h15, who, draw, hwho, rfl⟩ | ⟨h15, hd⟩
              · refine ⟨.inr ?_, fun h => absurd h15 h⟩
                show (upd g.C who _ q).s.tm = _ ∧ (_ → (upd g.C who _ q).s.vt = _)
                by_cases e : q = who
                · subst e; rw [upd_self]; exact ⟨rfl, fun _ => rfl⟩
                · rw [upd_ne e]; exact ⟨rfl, fun _ => rfl⟩
              · have h9 := hd.mv q hq
                refine ⟨h9.1.imp_right fun h => ⟨h.1.symm, h.2⟩, fun _ => h9.2⟩
            have M := Lib.hid (And.intro hI2 (And.intro hbx1 (And.intro hbx2 (And.intro hbx3 (And.intro hdk hmv)))))
            clear hI2 hbx1 hbx2 hbx3 hdk hmv hdn hR hg' hok' hk' d0' d1' d2' d3'
            go_wp2_with fail
            go_loopg [13, 14] j (fun gm s13 s14 wr => ∃ q : Nat, gm = j - q ∧ q ≤ j ∧ s13 = .int .i64 q ∧ Below w2.heap.size w2 wr)
            case atStart => exact ⟨0, by omega, by omega, rfl, Below.refl _ _⟩
            case round =>
              obtain ⟨q, hm, hq, rfl, hb⟩ := hrel
              have P := Lib.hid (And.intro hm hb)
              clear hm hb
              by_cases hqn : q < j
              · have hqI : decide ((q : Int) < (j : Int)) = true := decide_eq_true (by omega)
                have hqN : decide (q < j) = true := decide_eq_true hqn
                have hqw : IntKind.i64.wrap ((q : Int) + 1) = (q : Int) + 1 := by have := H.out.2.2; rw [IntKind.wrap_i64]; omega
                have h0q : (0 : Int) ≤ (q : Int) := by omega
                have hq7 : (q : Int) < 7 := by have := H.out.2.2; omega
                have cgq := (M.out.1.gi.below P.out.2).ptr hqn hn7
                go_wp2_with fail
                refine (gstored_any (M.out.1.gi.below P.out.2) hqn (M.out.1.ok q hqn)).mono ?_
                rintro e w5 ⟨s', rfl, ha, hs, b5⟩
                have hval : s'.val = .agg #[.int .i64 s'.tm, .int .i64 s'.vt, .int .i64 s'.b, .int .i64 s'.t, .slice s'.A s'.n s'.c, .slice s'.C s'.nc s'.cc, .slice s'.S s'.ns s'.cs] := rfl
                rw [hval]
                clear hval cgq
                go_upto_region 19 with (fail)
                obtain ⟨W6, hW6⟩ : ∃ W6, W6 = w5.alloc (.cells #[.int .i64 s'.tm, .int .i64 s'.vt, .int .i64 s'.b, .int .i64 s'.t, .slice s'.A s'.n s'.c, .slice s'.C s'.nc s'.cc, .slice s'.S s'.ns s'.cs] 41) := ⟨_, rfl⟩
                have x6 : Bx W6 w5.heap.size #[.int .i64 s'.tm, .int .i64 s'.vt, .int .i64 s'.b, .int .i64 s'.t, .slice s'.A s'.n s'.c, .slice s'.C s'.nc s'.cc, .slice s'.S s'.ns s'.cs] := by subst hW6; exact Bx.new _ _ _ rfl
                have b6 : Below w2.heap.size w2 W6 := by subst hW6; exact (P.out.2.trans (b5.mono P.out.2.size)).alloc (Nat.le_trans P.out.2.size b5.size) _
                rw [← hW6]
                clear hW6
                have hst : s'.tm = (g'.C q).s.tm ∧ s'.vt = (g'.C q).s.vt := by rw [← hs]; exact ⟨rfl, rfl⟩
                rw [hst.1, hst.2] at x6
                obtain ⟨T1, hT1⟩ : ∃ T1, T1 = (g'.C q).s.tm := ⟨_, rfl⟩
                obtain ⟨V1, hV1⟩ : ∃ V1, V1 = (g'.C q).s.vt := ⟨_, rfl⟩
                obtain ⟨C1, hC1⟩ : ∃ C1, C1 = (g'.C q).commit := ⟨_, rfl⟩
                obtain ⟨T0, hT0⟩ : ∃ T0, T0 = (g.C q).s.tm := ⟨_, rfl⟩
                obtain ⟨V0, hV0⟩ : ∃ V0, V0 = (g.C q).s.vt := ⟨_, rfl⟩
                obtain ⟨C0, hC0⟩ : ∃ C0, C0 = (g.C q).commit := ⟨_, rfl⟩
                rw [← hT1, ← hV1] at x6
                have hmv := M.out.2.2.2.2.2 q hqn
                rw [← hT1, ← hV1, ← hC1, ← hT0, ← hV0, ← hC0] at hmv
                have F9 : Hid (∀ W, Below W6.heap.size W6 W → W.cell? ⟨w5.heap.size, 0, none⟩ = some (.int .i64 T1) ∧ W.cell? ⟨w5.heap.size, 1, none⟩ = some (.int .i64 V1) ∧ W.cell? ⟨wa.heap.size, q, none⟩ = some (.int .i64 T0) ∧ W.cell? ⟨wa.heap.size + 1, q, none⟩ = some (.int .i64 V0)) := Lib.hid fun W hb => ⟨(x6.below hb).c 0, (x6.below hb).c 1, by
                  rw [hT0]; exact (((M.out.2.1.below b6).below hb).c q).trans (arr_get hqn hn7), by
                  rw [hV0]; exact (((M.out.2.2.1.below b6).below hb).c q).trans (arr_get hqn hn7)⟩
                have F10 : Hid (∀ W, Below W6.heap.size W6 W → W.cell? ⟨bb, oo + i * 4, none⟩ = some (.int .i64 dd.kd) ∧ W.cell? ⟨gb, q, none⟩ = some (.pointer (some ⟨p' q, 0, none⟩)) ∧ W.cell? ⟨wa.heap.size + 1 + 1, q, none⟩ = some (.int .i64 C0)) := Lib.hid fun W hb => ⟨by
                  have hl := World.block_lt_of_cell? w2 _ M.out.2.2.2.2.1
                  have h9 := M.out.2.2.2.2.1
                  unfold World.cell? at h9 ⊢
                  rw [hb.block bb (Nat.lt_of_lt_of_le hl b6.size), b6.block bb hl]
                  exact h9, ((M.out.1.gi.below b6).below hb).ptr hqn hn7, by
                  rw [hC0]; exact (((M.out.2.2.2.1.below b6).below hb).c q).trans (arr_get hqn hn7)⟩
                have G6 := Lib.hid (And.intro (M.out.1.gi.below b6) (And.intro b6 (And.intro hC1 x6)))
                obtain ⟨kk, hkk, _, hkt, hkw⟩ := umod_n dd.kd (n := 17) (by omega) (by omega)
                have hkt' : (IntKind.u64.wrap dd.kd).tmod 17 = (kk : Int) := hkt
                rw [hkt'] at hmv
                have tA : decide (T1 < T0) = false := decide_eq_false (by omega)
                have hcases : ((T1 == T0) = false ∨ ((T1 == T0) = true ∧ ((V0 != 0) = false ∨ ((V0 != 0) = true ∧ (V1 != V0) = false)))) ∧ (kk = 15 ∨ (kk ≠ 15 ∧ decide (C1 < C0) = false)) := by
                  obtain ⟨m1, m2⟩ := hmv
                  refine ⟨?_, ?_⟩
                  · rcases m1 with m1 | ⟨m1, m3⟩
                    · exact .inl (by simp; omega)
                    · refine .inr ⟨by simp [m1], ?_⟩
                      by_cases hv0 : V0 = 0
                      · exact .inl (by simp [hv0])
                      · exact .inr ⟨by simp [hv0], by simp [m3 hv0]⟩
                  · by_cases hk15 : kk = 15
                    · exact .inl hk15
                    · exact .inr ⟨hk15, decide_eq_false (by have := m2 (by omega); omega)⟩
                clear hT1 hV1 hC1 hT0 hV0 hC0 hmv hkt x6 b6 ha hs hst b5
                obtain ⟨hcA, hcB⟩ := hcases
                have HCB := Lib.hid hcB
                clear hcB
                rcases hcA with tB | ⟨tB, tC | ⟨tC, tD⟩⟩
                all_goals
                  refine wp_region_S 27 (fun W => Below W6.heap.size W6 W) (.take 0 (.take 1 (.take 2 (.take 3 (.take 4 (.take 5 (.take 6 (.take 7 (.take 8 (.take 9 (.take 10 (.take 11 (.take 12 (.take 13 (.take 14 (.take 15 (.take 16 (.take 17 (.take 18 (.take 19 (.take 20 (.take 21 (.take 22 (.take 23 (.take 24 (.take 25 (.take 26 (.one 27 (.nil))))))))))))))))))))))))))))) (by kernel_rfl) (Below.refl _ _).drew (fun _ _ _ _ h => h) (fun hS => ?_)
                  repeat (first
                    | (refine wpS_take (v := ?_) rfl rfl (by rfl) ?_ ?_; rotate_left; (intro W hW; have hf := F9.out W hW; go_split_ands; go_simp; try with_reducible rfl); try simp only [Act.put, lyA, lyB, lyC])
                    | (refine wpS_skip rfl rfl (by rfl) ?_; try simp only [Act.put, lyA, lyB, lyC]))
                  refine wpS_last rfl (by rfl) (fun K hK => ?_)
                  go_simp
                  refine hK _ _ ?_
                  clear hK K
                  try simp only [Act.put, lyA, lyB, lyC]
                  refine wpS_nil ?_
                  go_upto_region 21 with (fail)
                  rcases HCB.out with k15 | ⟨k15, tE⟩
                  · subst k15
                    have tF : (((15 : Nat) : Int) != 15) = false := rfl
                    refine wp_region_S 22 (fun W => Below W6.heap.size W6 W) (.take 0 (.take 1 (.take 2 (.take 3 (.take 4 (.take 5 (.take 6 (.take 7 (.take 8 (.take 9 (.take 10 (.take 11 (.take 12 (.take 13 (.take 14 (.take 15 (.take 18 (.take 19 (.take 20 (.one 16 (.take 17 (.take 21 (.one 22 (.nil)))))))))))))))))))))))) (by kernel_rfl) ((Below.refl _ _).drew).drew (fun _ _ _ _ h => h) (fun hS => ?_)
                    repeat (first
                      | (refine wpS_take (v := ?_) rfl rfl (by rfl) ?_ ?_; rotate_left; (intro W hW; have hf := F10.out W hW; go_split_ands; go_simp; try with_reducible rfl); try simp only [Act.put, lyA, lyB, lyC])
                      | (refine wpS_skip rfl rfl (by rfl) ?_; try simp only [Act.put, lyA, lyB, lyC]))
                    refine wpS_pass rfl rfl (by rfl) ?_
                    try simp only [Act.put, lyA, lyB, lyC]
                    repeat (first
                      | (refine wpS_take (v := ?_) rfl rfl (by rfl) ?_ ?_; rotate_left; (intro W hW; have hf := F10.out W hW; go_split_ands; go_simp; try with_reducible rfl); try simp only [Act.put, lyA, lyB, lyC])
                      | (refine wpS_skip rfl rfl (by rfl) ?_; try simp only [Act.put, lyA, lyB, lyC]))
                    refine wpS_last rfl (by rfl) (fun K hK => ?_)
                    go_simp
                    refine hK _ _ ?_
                    clear hK K
                    try simp only [Act.put, lyA, lyB, lyC]
                    refine wpS_nil ?_
                    go_wp2_with fail
                    go_roundg (j - (q + 1))
                    case measure => have := P.out.1; omega
                    case rel => exact ⟨q + 1, rfl, by omega, by go_num, G6.out.2.1.trans ((((Below.refl _ _).drew).drew).mono G6.out.2.1.size)⟩
                  · have tF : ((kk : Int) != 15) = true := by simp; omega
                    refine wp_region_S 22 (fun W => Below W6.heap.size W6 W) (.take 0 (.take 1 (.take 2 (.take 3 (.take 4 (.take 5 (.take 6 (.take 7 (.take 8 (.take 9 (.take 10 (.take 11 (.take 12 (.take 13 (.take 14 (.take 15 (.take 18 (.take 19 (.take 20 (.one 16 (.take 17 (.take 21 (.one 22 (.nil)))))))))))))))))))))))) (by kernel_rfl) ((Below.refl _ _).drew).drew (fun _ _ _ _ h => h) (fun hS => ?_)
                    repeat (first
                      | (refine wpS_take (v := ?_) rfl rfl (by rfl) ?_ ?_; rotate_left; (intro W hW; have hf := F10.out W hW; go_split_ands; go_simp; try with_reducible rfl); try simp only [Act.put, lyA, lyB, lyC])
                      | (refine wpS_skip rfl rfl (by rfl) ?_; try simp only [Act.put, lyA, lyB, lyC]))
                    refine wpS_one rfl (by rfl) (fun K hK => ?_)
                    go_simp
                    go_at_call 18
                    refine (gview_any (G6.out.1.below hS) hqn).mono ?_
                    rintro e w7 ⟨rfl, b7⟩
                    have b67 : Below W6.heap.size W6 w7 := hS.trans b7
                    refine hK (fun W => Below W6.heap.size W6 W) _ _ (fun _ h => h) b67 ?_
                    have B7 := Lib.hid b67
                    clear hK K hS b7 b67
                    try simp only [Act.put, lyA, lyB, lyC]
                    unfold Cr.viewV
                    have hfv := fldv_commit (g'.C q)
                    rw [← G6.out.2.2.1] at hfv ⊢
                    repeat (first
                      | (refine wpS_take (v := ?_) rfl rfl (by rfl) ?_ ?_; rotate_left; (intro W hW; have hf := F10.out W hW; go_split_ands; go_simp; try with_reducible rfl); try simp only [Act.put, lyA, lyB, lyC])
                      | (refine wpS_skip rfl rfl (by rfl) ?_; try simp only [Act.put, lyA, lyB, lyC]))
                    refine wpS_last rfl (by rfl) (fun K hK => ?_)
                    go_simp
                    refine hK _ _ ?_
                    clear hK K
                    try simp only [Act.put, lyA, lyB, lyC]
                    refine wpS_nil ?_
                    clear hfv
                    go_wp2_with fail
                    go_roundg (j - (q + 1))
                    case measure => have := P.out.1; omega
                    case rel => exact ⟨q + 1, rfl, by omega, by go_num, G6.out.2.1.trans (B7.out.mono G6.out.2.1.size)⟩

              · have hqI : decide ((q : Int) < (j : Int)) = false := decide_eq_false (by omega)
                have hqN : decide (q < j) = false := decide_eq_false hqn
                go_wp2_with fail
                go_roundg (m - (i + 1))
                case measure => have := R.out.1; omega
                case rel => exact ⟨i + 1, p', g', rfl, by omega, by omega, by go_num, M.out.1.below P.out.2⟩
      · have h8I : decide ((i : Int) < 80) = false := decide_eq_false (by omega)
        have h8N : decide (i < 80) = false := decide_eq_false h80
        go_wp2_with fail
        refine (sure_any wr R.out.2.gi.env).mono ?_
        rintro e w9 ⟨rfl, b9⟩
        go_wp2_with fail
        go_ret
        exact ⟨rfl, (R.out.2.kf.below fun b hb => hb).trans (b9.mono R.out.2.kf.size)⟩
    · have hjI : decide ((i : Int) < (m : Int)) = false := decide_eq_false (by omega)
      have hjN : decide (i < m) = false := decide_eq_false hlt
      go_wp2_with fail
      refine (sure_any wr R.out.2.gi.env).mono ?_
      rintro e w9 ⟨rfl, b9⟩
      go_wp2_with fail
      go_ret
      exact ⟨rfl, (R.out.2.kf.below fun b hb => hb).trans (b9.mono R.out.2.kf.size)⟩
end Go.Proofs.YtmhaahcbmdhinaaGreatDoor
