/- Walk of a tape's next. -/
import Derived.Test.YtlecglmiigdjlaaGreatDoorZb18
import Derived.Laws.BitsLemmas
namespace Go.Proofs.YtlecglmiigdjlaaGreatDoor
open Go.RowKit
set_option maxRecDepth 100000
set_option linter.unusedVariables false
set_option linter.unusedSimpArgs false
section
variable {W W' W2 : World} {L L' : Nat → Prop} {tg g : Nat} {t t' : Tp} {D D' : Dk} {z : Nat}
/-- A row of five bytes: where it lies. -/
theorem own_five {W : World} {B n c : Nat} {A : Option Addr} {l : List UInt8} (h : W.ownsRow B 5 1 (.slice A n c) n (bs l)) (hn : 0 < n) : ∃ b, A = some ⟨b, 0, none⟩ ∧ B ≤ b ∧ n ≤ c ∧ ∀ j, j < n → W.cell? ⟨b, j, none⟩ = some (.int .u8 ((l.getD j 0).toNat : Int)) := by
  have hl := (Rd.of_own h).blen
  obtain ⟨g, cap, hv, hb, hlt⟩ := h.form hn
  have hA : A = some ⟨g, 0, none⟩ := by injection hv
  subst hA
  refine ⟨g, rfl, hb, own_le h, fun j hj => ?_⟩
  have := h.cells (g := g) rfl j (.int .u8 (l[j]'(by omega)).toNat) (bs_get l j (by omega))
  have e : (⟨g, 0, none⟩ : Addr).add j = ⟨g, j, none⟩ := by unfold Addr.add; split <;> simp_all
  rw [e] at this
  rw [this, List.getD_eq_getElem?_getD, List.getElem?_eq_getElem (by omega)]
  rfl
theorem cut_getD (l : List UInt8) (p n j : Nat) (hj : j < n) : (cutAt l p n).getD j 0 = l.getD (p + j) 0 := by
  unfold cutAt
  rw [List.getD_eq_getElem?_getD, List.getD_eq_getElem?_getD, List.getElem?_take, if_pos hj, List.getElem?_drop]
theorem Dk.read_yes {D : Dk} {z p n : Nat} (hk : D.Ok z) (ho : D.off = false) (hp : p + n ≤ z) : D.read p n = (cutAt D.now p n, 0) := by
  unfold Dk.read cutAt
  rw [if_pos ((Dk.withE_iff hk).2 ⟨by omega, ho⟩)]
  simp
theorem Dk.read_down {D : Dk} {z p n : Nat} (hk : D.Ok z) (ho : D.off = true) (hp : p + n ≤ z) : D.read p n = ([], 13) := by
  have h1 : D.withE p n = 13 := by
    unfold Dk.withE
    rw [hk.safe, if_neg (by omega), ho]
    rfl
  unfold Dk.read
  rw [h1]
  rfl
theorem cut_len {l : List UInt8} {p n : Nat} (h : p + n ≤ l.length) : (cutAt l p n).length = n := by unfold cutAt; simp; omega
def NextPost (W : World) (L : Nat → Prop) (tg g : Nat) (t : Tp) (D : Dk) (z : Nat) (e : Ending) (w' : World) : Prop :=
  (D.off = true ∧ e = .returned (.tuple #[.slice none 0 0, .bool false, .iface 69 (.int .i64 13)]) ∧ Below W.heap.size W w') ∨
  (D.off = false ∧ mkAt D.now t.p = 0 ∧ e = .returned (.tuple #[.slice none 0 0, .bool false, .nilIface]) ∧ Below W.heap.size W w') ∨
  (D.off = false ∧ mkAt D.now t.p ≠ 0 ∧ (mkAt D.now t.p ≠ 1 ∨ t.en < t.p + 5 + lnAt D.now t.p) ∧ e = .returned (.tuple #[.slice none 0 0, .bool false, .iface 69 (.int .i64 14)]) ∧ Below W.heap.size W w') ∨
  (D.off = false ∧ mkAt D.now t.p = 1 ∧ t.p + 5 + lnAt D.now t.p ≤ t.en ∧ ∃ A c, e = .returned (.tuple #[.slice A (lnAt D.now t.p) c, .bool true, .nilIface]) ∧ Rd w' (W.heap.size ≤ ·) 1 A (lnAt D.now t.p) (bs (cutAt D.now (t.p + 5) (lnAt D.now t.p))) ∧ lnAt D.now t.p ≤ c ∧ c ≤ maxLen ∧ TDX w' L tg g { t with p := t.p + 5 + lnAt D.now t.p, n := t.n + 1 } D z ∧ Kept (fun b => b = tg) W w')
theorem below_un {W W' : World} {k : Nat} (h : Below (W.drewN k).heap.size (W.drewN k) W') : Below W.heap.size W W' := ⟨h.os, h.tape, h.output, h.size, h.block⟩
theorem next_down (w : World) (h : TDX w L tg g t D z) (hp : t.p + 5 ≤ t.en) (ho : D.off = true) : Calls Tryz.prog 46 #[.pointer (some ⟨tg, 0, none⟩)] w (NextPost w L tg g t D z) := by
  obtain ⟨c0, c1, c2, c3, c4, c5⟩ := h.c
  obtain ⟨o1, o2, o3, o4⟩ := h.ok
  have hz := h.dx.z2
  have hr := fun k => read_own t.p 5 (w.drewN k) (h.drewN k).dx (by unfold I64; omega) (by unfold I64; omega)
  have e1 : D.read (t.p : Int) 5 = ([], 13) := Dk.read_down (n := 5) h.dx.ok ho (by omega)
  rw [e1] at hr
  unfold ReadOwn at hr
  rw [errD_ne (by decide)] at hr
  have Hr := Lib.hid hr
  clear h hr e1 c1 c2 c4 c5
  unfold NextPost
  go_enter Tryz.func46, Tryz.ntmps46
  go_wp2_with fail
  go_region_law (first | (go_simp; go_at_call 82; refine (Hr.out 1).mono ?_; rintro e w1 ⟨A, c, rfl, how, hb1⟩))
  all_goals
    go_wp2_with fail
    refine bodyPost_ret (by simp [results, Tryz.results46, go_sem]; rfl) rfl ?_
    exact .inl ⟨ho, rfl, (below_un hb1)⟩
theorem next_none (w : World) (h : TDX w L tg g t D z) (hp : t.p + 5 ≤ t.en) (ho : D.off = false) (hm : mkAt D.now t.p = 0 ∨ (mkAt D.now t.p ≠ 0 ∧ mkAt D.now t.p ≠ 1)) : Calls Tryz.prog 46 #[.pointer (some ⟨tg, 0, none⟩)] w (NextPost w L tg g t D z) := by
  obtain ⟨c0, c1, c2, c3, c4, c5⟩ := h.c
  obtain ⟨o1, o2, o3, o4⟩ := h.ok
  have hz := h.dx.z2
  have hr := fun k => read_own t.p 5 (w.drewN k) (h.drewN k).dx (by unfold I64; omega) (by unfold I64; omega)
  have e1 : D.read (t.p : Int) 5 = (cutAt D.now t.p 5, 0) := Dk.read_yes (n := 5) h.dx.ok ho (by omega)
  have e2 : (cutAt D.now t.p 5).length = 5 := cut_len (by rw [h.dx.ok.nowlen]; omega)
  rw [e1] at hr
  unfold ReadOwn at hr
  rw [errD_nil, e2] at hr
  have e3 : (cutAt D.now t.p 5).getD 0 0 = mkAt D.now t.p := cut_getD _ _ _ 0 (by omega)
  have Hr := Lib.hid hr
  unfold NextPost
  generalize hM : mkAt D.now t.p = M at hm e3 ⊢
  have HM := Lib.hid hM
  clear h hr e1 c1 c2 c4 c5 hM e2
  rcases hm with rfl | ⟨hm0, hm1⟩
  · have e3' := e3
    go_enter Tryz.func46, Tryz.ntmps46
    go_wp2_with fail
    go_region_law (first | (go_simp; go_at_call 82; refine (Hr.out 1).mono ?_; rintro e w1 ⟨A, c, rfl, how, hb1⟩; obtain ⟨b, rfl, -, hc, hcell⟩ := own_five how (by omega); have q0 : w1.cell? ⟨b, 0, none⟩ = some (.int .u8 0) := (by have := hcell 0 (by omega); rw [e3] at this; exact this)))
    all_goals
      clear hcell
      go_wp2_with fail
      refine bodyPost_ret (by simp [results, Tryz.results46, go_sem]; rfl) rfl ?_
      exact .inr (.inl ⟨ho, by simp, rfl, (below_un hb1)⟩)
  · have hm2 : ¬ ((M.toNat : Int) = 0) := fun h => hm0 (UInt8.toNat_inj.1 (by show M.toNat = 0; omega))
    have hm3 : ¬ ((M.toNat : Int) = 1) := fun h => hm1 (UInt8.toNat_inj.1 (by show M.toNat = 1; omega))
    go_enter Tryz.func46, Tryz.ntmps46
    go_wp2_with fail
    go_region_law (first | (go_simp; go_at_call 82; refine (Hr.out 1).mono ?_; rintro e w1 ⟨A, c, rfl, how, hb1⟩; obtain ⟨b, rfl, -, hc, hcell⟩ := own_five how (by omega); have q0 : w1.cell? ⟨b, 0, none⟩ = some (.int .u8 (M.toNat : Int)) := (by have := hcell 0 (by omega); rw [e3] at this; exact this)))
    all_goals
      clear hcell
      go_wp2_with fail
      refine bodyPost_ret (by simp [results, Tryz.results46, go_sem]; rfl) rfl ?_
      exact .inr (.inr (.inl ⟨ho, hm0, .inl hm1, rfl, (below_un hb1)⟩))
/-- Four bytes, highest first. -/
def val4 (l : List UInt8) (k : Nat) : Nat := (l.take k).foldl (fun a c => a * 256 + c.toNat) 0
theorem val4_next {l : List UInt8} {k : Nat} (hk : k < l.length) : val4 l (k + 1) = val4 l k * 256 + (l.getD k 0).toNat := by
  unfold val4
  rw [List.take_add_one, List.getElem?_eq_getElem hk, List.foldl_append, List.getD_eq_getElem?_getD, List.getElem?_eq_getElem hk]
  rfl
theorem val4_lt {l : List UInt8} : ∀ k, val4 l k < 256 ^ k := by
  intro k
  induction k with
  | zero => simp [val4]
  | succ k ih =>
    by_cases hk : k < l.length
    · rw [val4_next hk, Nat.pow_succ]
      have := (l.getD k 0).toNat_lt
      omega
    · have : val4 l (k + 1) = val4 l k := by unfold val4; rw [List.take_of_length_le (by omega), List.take_of_length_le (by omega)]
      rw [this, Nat.pow_succ]
      have : 0 < 256 ^ k := Nat.pow_pos (by omega)
      omega
theorem val4_ln (l : List UInt8) (p : Nat) (h : p + 5 ≤ l.length) : val4 ((cutAt l p 5).drop 1) 4 = lnAt l p := by
  have hl : (cutAt l p 5).length = 5 := cut_len h
  have hd : ((cutAt l p 5).drop 1).length = 4 := by rw [List.length_drop, hl]
  have hg : ∀ k, k < 4 → ((cutAt l p 5).drop 1).getD k 0 = l.getD (p + 1 + k) 0 := by
    intro k hk
    rw [List.getD_eq_getElem?_getD, List.getElem?_drop, ← List.getD_eq_getElem?_getD, cut_getD _ _ _ _ (by omega)]
    congr 1
    omega
  rw [val4_next (by omega), val4_next (by omega), val4_next (by omega), val4_next (by omega), hg 3 (by omega), hg 2 (by omega), hg 1 (by omega), hg 0 (by omega)]
  unfold lnAt
  simp only [val4, List.take_zero, List.foldl_nil, Nat.add_assoc, Nat.reduceAdd, Nat.add_zero]
  omega
theorem i64_wrap_id (n : Int) (h0 : 0 ≤ n) (h1 : n < 2 ^ 63) : IntKind.i64.wrap n = n := by
  simp only [IntKind.wrap, IntKind.bits, IntKind.signed]
  simp
  omega
theorem or_bits (a c : Nat) (ha : a < 16777216) (hc : c < 256) : bits .or .i64 ((a : Int) * 256) (c : Int) = ((a * 256 + c : Nat) : Int) := by
  rw [bits_join .i64 63 (by decide) i64_wrap_id 8 ((a : Int) * 256) (c : Int) (by omega) (by omega) (by omega) (by omega) (by omega) (by omega)]
  push_cast
  rfl
set_option maxHeartbeats 1600000 in
theorem next_one (w : World) (h : TDX w L tg g t D z) (hp : t.p + 5 ≤ t.en) (ho : D.off = false) (hm : mkAt D.now t.p = 1) : Calls Tryz.prog 46 #[.pointer (some ⟨tg, 0, none⟩)] w (NextPost w L tg g t D z) := by
  obtain ⟨c0, c1, c2, c3, c4, c5⟩ := h.c
  obtain ⟨o1, o2, o3, o4⟩ := h.ok
  have hz := h.dx.z2
  have hr := fun k => read_own t.p 5 (w.drewN k) (h.drewN k).dx (by unfold I64; omega) (by unfold I64; omega)
  have e1 : D.read (t.p : Int) 5 = (cutAt D.now t.p 5, 0) := Dk.read_yes (n := 5) h.dx.ok ho (by omega)
  have e2 : (cutAt D.now t.p 5).length = 5 := cut_len (by rw [h.dx.ok.nowlen]; omega)
  rw [e1] at hr
  unfold ReadOwn at hr
  rw [errD_nil, e2] at hr
  have e3 : (cutAt D.now t.p 5).getD 0 0 = mkAt D.now t.p := cut_getD _ _ _ 0 (by omega)
  have e4 := val4_ln D.now t.p (by rw [h.dx.ok.nowlen]; omega)
  rw [hm] at e3
  obtain ⟨B5, hB5⟩ : ∃ B5, B5 = cutAt D.now t.p 5 := ⟨_, rfl⟩
  rw [← hB5] at hr e2 e3 e4
  have Hr := Lib.hid hr
  have H := Lib.hid h
  have E3 := Lib.hid e3
  have E4 := Lib.hid e4
  have E2 := Lib.hid e2
  unfold NextPost
  generalize hN : lnAt D.now t.p = N at E4 ⊢
  have HN := Lib.hid hN
  clear h hr e1 c1 c2 c4 c5 e2 hB5 e3 e4 hN
  go_enter Tryz.func46, Tryz.ntmps46
  go_wp2_with fail
  go_region_law (first | (go_simp; go_at_call 82; refine (Hr.out 1).mono ?_; rintro e w1 ⟨A, c, rfl, how, hb1⟩; obtain ⟨b, rfl, hbB, hc, hcell⟩ := own_five how (by omega); have q0 : w1.cell? ⟨b, 0, none⟩ = some (.int .u8 1) := (by have := hcell 0 (by omega); rw [E3.out] at this; exact this)))
  all_goals
    have hcell' : ∀ k, k < 4 → w1.cell? ⟨b, 1 + k, none⟩ = some (.int .u8 (((B5.drop 1).getD k 0).toNat : Int)) := by
      intro k hk
      rw [List.getD_eq_getElem?_getD, List.getElem?_drop, ← List.getD_eq_getElem?_getD]
      exact hcell (1 + k) (by omega)
    have hsl : ∀ W : World, (Instr.sliceAt 33 (.slice (some ⟨b, 0, none⟩) 5 c) (some (.int .i64 1)) none none).run Tryz.prog W = .ok (.slice (some ⟨b, 1, none⟩) 4 (c - 1)) W := by
      intro W
      have := run_slice_lo (P := Tryz.prog) 33 Tryz.underlying33 (size := 1) (by kernel_rfl) (some ⟨b, 0, none⟩) 5 c W 1 (by omega)
      rw [if_neg (by omega)] at this
      exact this
    have hb1' := (below_un hb1)
    have h1 := H.out.below (W' := w1) hb1'
    obtain ⟨d0, d1, d2, d3, d4, d5⟩ := h1.c
    have f3 := h1.bx.f 3
    have f4 := h1.bx.f 4
    have H1 := Lib.hid h1
    have Hcell := Lib.hid hcell'
    have Hb1 := Lib.hid hb1'
    clear hcell hcell' how h1 hb1 hb1' d2 d5
    obtain ⟨B4, hB4⟩ : ∃ B4, B4 = B5.drop 1 := ⟨_, rfl⟩
    rw [← hB4] at Hcell
    have e5 := E4.out
    rw [← hB4] at e5
    have hl4 : B4.length = 4 := by rw [hB4, List.length_drop, E2.out]
    have E5 := Lib.hid e5
    clear e5 hB4
    go_wp2_with fail
    go_loopg [7, 41] 4 (fun m s7 s41 wr => ∃ k, m = 4 - k ∧ k ≤ 4 ∧ s7 = .int .i64 (val4 B4 k : Nat) ∧ s41 = .int .i64 (k : Nat) ∧ wr = w1)
    case atStart => exact ⟨0, by omega, by omega, rfl, rfl, rfl⟩
    case round =>
      obtain ⟨k, hmk, hk, rfl, rfl, rfl⟩ := hrel
      by_cases hk4 : k < 4
      · have hk4I : (k : Int) < 4 := by omega
        have hk0I : (0 : Int) ≤ k := by omega
        have q1 := Hcell.out k hk4
        have hv := val4_lt (l := B4) k
        have hv2 : val4 B4 k < 16777216 := Nat.lt_of_lt_of_le hv (Nat.le_trans (Nat.pow_le_pow_right (by omega) (show k ≤ 3 by omega)) (by decide))
        obtain ⟨cc, hcc⟩ : ∃ cc, cc = (B4.getD k 0).toNat := ⟨_, rfl⟩
        have hc2 : cc < 256 := by rw [hcc]; exact (B4.getD k 0).toNat_lt
        have hnx : val4 B4 (k + 1) = val4 B4 k * 256 + cc := by rw [hcc]; exact val4_next (by omega)
        rw [← hcc] at q1
        obtain ⟨a, ha⟩ : ∃ a, a = val4 B4 k := ⟨_, rfl⟩
        rw [← ha] at hv2 hnx ⊢
        have Hnx := Lib.hid hnx
        clear hcc hnx hv ha
        go_wp2_with fail
        go_roundg (4 - (k + 1))
        case measure => omega
        case rel => exact ⟨k + 1, by omega, by omega, by rw [Hnx.out, or_bits a cc hv2 hc2], by go_num, rfl⟩
      · have hk4d : decide ((k : Int) < 4) = false := by simp; omega
        obtain rfl : k = 4 := by omega
        rw [E5.out]
        have hNlt : N < 4294967296 := by rw [← E5.out]; exact val4_lt 4
        have s1 : -9223372036854775808 ≤ (t.en : Int) - t.p := by omega
        have s2 : (t.en : Int) - t.p < 9223372036854775808 := by omega
        have s3 : -9223372036854775808 ≤ (t.en : Int) - t.p - 5 := by omega
        have s4 : (t.en : Int) - t.p - 5 < 9223372036854775808 := by omega
        by_cases hlong : t.en < t.p + 5 + N
        · have g1 : (t.en : Int) - t.p - 5 < N := by omega
          clear hk4d
          go_wp2_with fail
          go_region
          all_goals
            go_wp2_with fail
            refine bodyPost_ret (by simp [results, Tryz.results46, go_sem]; rfl) rfl ?_
            exact .inr (.inr (.inl ⟨ho, by rw [hm]; decide, .inr hlong, rfl, Hb1.out.drew⟩))
        · have g1 : decide ((t.en : Int) - t.p - 5 < (N : Int)) = false := by simp; omega
          have e6 : D.read ((t.p : Int) + 5) (N : Nat) = (cutAt D.now (t.p + 5) N, 0) := by
            have := Dk.read_yes (D := D) (p := t.p + 5) (n := N) H.out.dx.ok ho (by omega)
            rw [← this]
            push_cast
            rfl
          have e7 : (cutAt D.now (t.p + 5) N).length = N := cut_len (by rw [H.out.dx.ok.nowlen]; omega)
          have hr2 := fun k => read_own ((t.p : Int) + 5) (N : Nat) (wr.drewN k) (H1.out.drewN k).dx (by unfold I64; omega) (by unfold I64; omega)
          rw [e6] at hr2
          unfold ReadOwn at hr2
          rw [errD_nil, e7] at hr2
          have Hr2 := Lib.hid hr2
          have E7 := Lib.hid e7
          have hw5 : IntKind.i64.wrap ((t.p : Int) + 5) = (t.p : Int) + 5 := i64_wrap_id _ (by omega) (by omega)
          clear hk4d hr2 e6 e7
          go_wp2_with fail
          go_region
          all_goals
            go_wp2_with fail
            go_region_law (first | (go_simp; go_at_call 82; refine (Hr2.out 2).mono ?_; rintro e w2 ⟨A2, c2, rfl, how2, hb2⟩; have hb2' := below_un hb2; have h2 := H1.out.below (W' := w2) hb2'; obtain ⟨a0, a1, a2, a3, a4, a5⟩ := h2.c; have g3 := h2.bx.f 3; have g4 := h2.bx.f 4; have H2 := Lib.hid h2; clear h2))
            all_goals
              clear d0 d1 d3 d4 f3 f4 a0 a1 a2 a5
              have p1 : -9223372036854775808 ≤ (t.p : Int) + (5 + N) := by omega
              have p2 : (t.p : Int) + (5 + N) < 9223372036854775808 := by omega
              have p3 : (t.n : Int) + 1 < 9223372036854775808 := by omega
              have Hb2 := Lib.hid hb2'
              have How2 := Lib.hid how2
              clear hb2 hb2' how2
              go_wp2_with fail
              refine bodyPost_ret (by simp [results, Tryz.results46, go_sem]; rfl) rfl ?_
              have hset3 : (tcells g t).setIfInBounds 3 (.int .i64 ((t.p : Int) + (5 + N))) = tcells g { t with p := t.p + 5 + N } := by
                simp [tcells]
                omega
              have hok : Tp.Ok { t with p := t.p + 5 + N, n := t.n + 1 } z := ⟨by dsimp only; omega, by dsimp only; omega, o3, by dsimp only; omega⟩
              have hok3 : Tp.Ok { t with p := t.p + 5 + N } z := ⟨by dsimp only; omega, by dsimp only; omega, o3, by dsimp only; omega⟩
              have hset4 : (tcells g { t with p := t.p + 5 + N }).setIfInBounds 4 (.int .i64 ((t.n : Int) + 1)) = tcells g { t with p := t.p + 5 + N, n := t.n + 1 } := by simp [tcells]
              have hb12 := Hb1.out.trans (Hb2.out.mono Hb1.out.size)
              have hrd := (Rd.of_own How2.out).mono (ok' := fun b => w.heap.size ≤ b) fun b hb => Nat.le_trans Hb1.out.size hb
              have hlt := H.out.lt
              refine .inr (.inr (.inr ⟨ho, hm, by omega, A2, c2, rfl, ?_, own_le How2.out, ?_, (H2.out.set (i := 3) hset3 hok3).set (i := 4) hset4 hok, ((Kept.of_new (U := fun b => b = tg) hb12).set (p := ⟨tg, 3, none⟩) rfl _).set (p := ⟨tg, 4, none⟩) rfl _⟩))
              · refine hrd.keep fun b hb _ => ?_
                rw [Below.heap_setCell _ _ _ b (by dsimp only; omega), Below.heap_setCell _ _ _ b (by dsimp only; omega)]
              · obtain ⟨A', c', e1, _, e3⟩ := own_form How2.out
                injection e1 with _ _ e1
                omega
theorem next_any (w : World) (h : TDX w L tg g t D z) (hp : t.p + 5 ≤ t.en) : Calls Tryz.prog 46 #[.pointer (some ⟨tg, 0, none⟩)] w (NextPost w L tg g t D z) := by
  cases ho : D.off with
  | true => exact next_down w h hp ho
  | false =>
    by_cases h1 : mkAt D.now t.p = 1
    · exact next_one w h hp ho h1
    · exact next_none w h hp ho (by by_cases h0 : mkAt D.now t.p = 0; exact .inl h0; exact .inr ⟨h0, h1⟩)
end
end Go.Proofs.YtlecglmiigdjlaaGreatDoor
