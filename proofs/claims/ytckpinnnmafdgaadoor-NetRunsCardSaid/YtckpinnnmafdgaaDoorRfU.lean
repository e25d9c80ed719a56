/- The document's Turn. (Printed by mkrfu.py.) -/
import Derived.Test.YtckpinnnmafdgaaDoorRfT
namespace Go.Proofs.YtckpinnnmafdgaaDoor
open Go.RowKit
set_option maxRecDepth 100000
set_option linter.unusedVariables false
set_option linter.unusedSimpArgs false
theorem xor_bits (c : UInt8) (kk : Nat) (h : kk < 8) : bits .xor .u8 (c.toNat : Int) ((((1 : UInt8) <<< UInt8.ofNat kk).toNat : Nat) : Int) = ((c ^^^ ((1 : UInt8) <<< UInt8.ofNat kk)).toNat : Int) := by
  have key : ∀ k : Fin 8, ∀ d : Fin 256, bits .xor .u8 ((d.val : Nat) : Int) ((((1 : UInt8) <<< UInt8.ofNat k.val).toNat : Nat) : Int) = (((UInt8.ofNat d.val) ^^^ ((1 : UInt8) <<< UInt8.ofNat k.val)).toNat : Int) := by decide +kernel
  have := key ⟨kk, h⟩ ⟨c.toNat, c.toNat_lt⟩
  simpa using this
def pows : List Value := [.int .u8 1, .int .u8 2, .int .u8 4, .int .u8 8, .int .u8 16, .int .u8 32, .int .u8 64, .int .u8 128]
theorem pows_at (kk : Nat) (h : kk < 8) : pows[kk]? = some (.int .u8 (((1 : UInt8) <<< UInt8.ofNat kk).toNat : Int)) := by
  have h8 : kk = 0 ∨ kk = 1 ∨ kk = 2 ∨ kk = 3 ∨ kk = 4 ∨ kk = 5 ∨ kk = 6 ∨ kk = 7 := by omega
  rcases h8 with rfl | rfl | rfl | rfl | rfl | rfl | rfl | rfl <;> rfl
set_option maxHeartbeats 1600000 in
theorem turnR_none (r : Rn) (z bit : Int) (w : World) {ok : Nat → Prop} (hr : RN w ok r) (hno : ∀ x ∈ r.l, byId z x = false) :
    Calls Tryd.prog 17 #[rnA r, .int .i64 z, .int .i64 bit] w (RfS w (.tuple #[rnA r, .int .i64 8])) := by
  have hf := fun W (hW : Below w.heap.size w W) => findR_any r z W (hr.below hW)
  obtain ⟨lim, last, LA, ln, lc, l, CA, cn, cc, cuts⟩ := r
  unfold rnA at hf ⊢
  dsimp only at hf hno ⊢
  obtain ⟨W0, hW0⟩ : ∃ W0, W0 = (w.alloc (.cells #[.int .i64 lim, .int .i64 last, .slice LA ln lc, .slice CA cn cc] 46)).alloc (.cells #[.int .i64 0, .int .i64 0, .slice none 0 0, .slice none 0 0] 46) := ⟨_, rfl⟩
  have b0 : Bx W0 w.heap.size #[.int .i64 lim, .int .i64 last, .slice LA ln lc, .slice CA cn cc] := by subst hW0; exact (Bx.new _ _ _ rfl).alloc _
  have b1 : Bx W0 (w.heap.size + 1) #[.int .i64 0, .int .i64 0, .slice none 0 0, .slice none 0 0] := by subst hW0; exact Bx.new _ _ _ (by simp)
  have hbe : Below w.heap.size w W0 := by subst hW0; exact ((Below.refl _ _).alloc (Nat.le_refl _) _).alloc (by simp) _
  have hz0 : w.heap.size + 2 ≤ W0.heap.size := by subst hW0; simp
  obtain ⟨k0, k1, k2, k3, -⟩ := b0.c4
  have Hf := Lib.hid hf
  have B0 := Lib.hid b0
  have B1 := Lib.hid b1
  have Hbe := Lib.hid hbe
  have HW := Lib.hid hW0
  have Hno := Lib.hid hno
  clear hf hr b0 b1 hbe hW0 hno hz0
  go_enter Tryd.func17, Tryd.ntmps17
  go_wp2_with fail
  rw [← HW.out]
  refine (Hf.out _ Hbe.out).mono ?_
  rintro e w1 ⟨k, rfl, hat, hb⟩
  obtain rfl := at_no hat Hno.out
  clear k0 k1 k2 k3
  obtain ⟨k0, k1, k2, k3, -⟩ := (B0.out.below hb).c4
  obtain ⟨r0, r1, r2, r3, f0, f1, f2, f3⟩ := (B1.out.below hb).c4
  have hb1 := Hbe.out.trans (hb.mono Hbe.out.size)
  have Hb1 := Lib.hid hb1
  clear hb hb1 hat
  go_wp2_with fail
  refine bodyPost_ret (by simp [results, Tryd.results17, go_sem, r0, r1, r2, r3]; rfl) rfl ?_
  exact ⟨rfl, below_four Hb1.out (by omega) _ _ _ _⟩
set_option maxHeartbeats 1600000 in
theorem turnR_out (r : Rn) (z bit : Int) (w : World) {ok : Nat → Prop} (hr : RN w ok r) (j : Nat) (y : Ic) (hy : r.l[j]? = some y) (hz : byId z y = true) (hne : ∀ x ∈ r.l.take j, byId z x = false) (hbit : bit < 0 ∨ ∃ m jj : Nat, bit = m ∧ jj = m / 8 ∧ y.n ≤ jj ∧ m < 9223372036854775808) :
    Calls Tryd.prog 17 #[rnA r, .int .i64 z, .int .i64 bit] w (RfS w (.tuple #[rnA r, .int .i64 4])) := by
  have hf := fun W (hW : Below w.heap.size w W) => findR_any r z W (hr.below hW)
  have hrl := hr.lt
  have hn1 := hr.n1
  have hlen := hr.len
  obtain ⟨lim, last, LA, ln, lc, l, CA, cn, cc, cuts⟩ := r
  unfold rnA at hf ⊢
  dsimp only at hf hy hne hn1 hlen ⊢
  have hjn : j < ln := by have := (List.getElem?_eq_some_iff.1 hy).1; omega
  obtain ⟨W0, hW0⟩ : ∃ W0, W0 = (w.alloc (.cells #[.int .i64 lim, .int .i64 last, .slice LA ln lc, .slice CA cn cc] 46)).alloc (.cells #[.int .i64 0, .int .i64 0, .slice none 0 0, .slice none 0 0] 46) := ⟨_, rfl⟩
  have b0 : Bx W0 w.heap.size #[.int .i64 lim, .int .i64 last, .slice LA ln lc, .slice CA cn cc] := by subst hW0; exact (Bx.new _ _ _ rfl).alloc _
  have b1 : Bx W0 (w.heap.size + 1) #[.int .i64 0, .int .i64 0, .slice none 0 0, .slice none 0 0] := by subst hW0; exact Bx.new _ _ _ (by simp)
  have hbe : Below w.heap.size w W0 := by subst hW0; exact ((Below.refl _ _).alloc (Nat.le_refl _) _).alloc (by simp) _
  have hz0 : w.heap.size + 2 ≤ W0.heap.size := by subst hW0; simp
  obtain ⟨k0, k1, k2, k3, -⟩ := b0.c4
  have Hf := Lib.hid hf
  have B0 := Lib.hid b0
  have B1 := Lib.hid b1
  have Hbe := Lib.hid hbe
  have HW := Lib.hid hW0
  have Hy := Lib.hid (And.intro hy (And.intro hz hne))
  have Hrl := Lib.hid hrl
  clear hf hr b0 b1 hbe hW0 hy hz hne hrl hlen hz0
  go_enter Tryd.func17, Tryd.ntmps17
  go_wp2_with fail
  rw [← HW.out]
  refine (Hf.out _ Hbe.out).mono ?_
  rintro e w1 ⟨k, rfl, hat, hb⟩
  obtain rfl := at_yes hat Hy.out.1 Hy.out.2.1 Hy.out.2.2
  clear k0 k1 k2 k3
  obtain ⟨k0, k1, k2, k3, -⟩ := (B0.out.below hb).c4
  obtain ⟨r0, r1, r2, r3, f0, f1, f2, f3⟩ := (B1.out.below hb).c4
  have hb1 := Hbe.out.trans (hb.mono Hbe.out.size)
  obtain ⟨bb, o, x, hLA, -, hbl, hx, q0, q1, q2, q3⟩ := ic_cells (Hrl.out.it.below hb1) hjn
  dsimp only at hLA
  subst hLA
  obtain rfl : y = x := by have := Hy.out.1.symm.trans hx; simpa using this
  have hjI : (j : Int) < ln := by omega
  have hjd : decide ((j : Int) < 0) = false := by simp
  have hj0 : ¬ ((j : Int) < 0) := by omega
  have Hb1 := Lib.hid hb1
  clear hb hb1 hat hx
  rcases hbit with hbit | ⟨m, jj, rfl, hjj, hyj, hml⟩
  · have hbd : decide (bit < 0) = true := by simpa using hbit
    go_wp2_with fail
    refine bodyPost_ret (by simp [results, Tryd.results17, go_sem, r0, r1, r2, r3]; rfl) rfl ?_
    exact ⟨rfl, below_four Hb1.out (by omega) _ _ _ _⟩
  · have hm0 : ¬ (m : Int) < 0 := by omega
    have hmd : decide ((m : Int) < 0) = false := by simp
    have e1 : ((m : Int) / 8) = (jj : Int) := by omega
    have hwj : IntKind.i64.wrap ((jj : Nat) : Int) = (jj : Int) := by rw [IntKind.wrap_i64]; omega
    have hjd2 : decide ((y.n : Int) ≤ (jj : Int)) = true := by simp; omega
    have hjd3 : (y.n : Int) ≤ (jj : Int) := by omega
    have hj1 : (0 : Int) ≤ jj := by omega
    clear hjj hml
    go_wp2_with fail
    refine bodyPost_ret (by simp [results, Tryd.results17, go_sem, r0, r1, r2, r3]; rfl) rfl ?_
    exact ⟨rfl, below_four Hb1.out (by omega) _ _ _ _⟩
def TurnRY (w : World) (ok : Nat → Prop) (r : Rn) (j : Nat) (y : Ic) (d : List UInt8) (e : Ending) (w' : World) : Prop := ∃ LA' lc' A c, e = .returned (.tuple #[rnA { r with LA := LA', lc := lc', l := r.l.set j (withD y A y.n c d) }, .int .i64 0]) ∧ RN w' (fun b => ok b ∨ w.heap.size ≤ b) { r with LA := LA', lc := lc', l := r.l.set j (withD y A y.n c d) } ∧ (LA' = none → lc' = 0) ∧ Below w.heap.size w w'
theorem turnR_end {w wd W' : World} {ok : Nat → Prop} {lim last : Int} {LA CA A5 A6 : Option Addr} {ln lc cn cc c5 c6 j B5 B6 : Nat} {l : List Ic} {cuts : List Pr} {y : Ic} {d : List UInt8}
    (hrl : RN w (fun b => ok b ∧ b < w.heap.size) ⟨lim, last, LA, ln, lc, l, CA, cn, cc, cuts⟩) (hy : l[j]? = some y) (ho5 : wd.ownsRow B5 50 4 (.slice A5 ln c5) ln ((flat icell l).set (j * 4 + 3) (.slice A6 y.n c6))) (ho6 : wd.ownsRow B6 5 1 (.slice A6 y.n c6) y.n (bs d)) (h5 : w.heap.size + 2 ≤ B5) (h6 : w.heap.size + 2 ≤ B6)
    (hk : ∀ b, w.heap.size + 2 ≤ b → W'.heap[b]? = wd.heap[b]?) (hbe : Below w.heap.size w W') :
    TurnRY w ok ⟨lim, last, LA, ln, lc, l, CA, cn, cc, cuts⟩ j y d (.returned (.tuple #[.agg #[.int .i64 lim, .int .i64 last, .slice A5 ln c5, .slice CA cn cc], .int .i64 0])) W' := by
  have hko : ∀ b, b < w.heap.size → W'.heap[b]? = w.heap[b]? := fun b hb => hbe.block b hb
  rw [flat_setD l j y hy] at ho5
  refine ⟨A5, c5, A6, c6, rfl, ⟨?_, fun x hx => ?_, ?_, ?_, hrl.n1, hrl.n2⟩, ?_, hbe⟩
  · exact ((Rd.of_own ho5).keep (w' := W') (fun b hb _ => hk b (by omega))).mono fun b hb => .inr (by omega)
  · rcases List.mem_or_eq_of_mem_set hx with hx | rfl
    · have := hrl.dt x hx
      exact ⟨(this.1.keep fun b hb _ => hko b hb.2).mono fun b hb => .inl hb.1, this.2⟩
    · exact ⟨((Rd.of_own ho6).keep (w' := W') (fun b hb _ => hk b (by omega))).mono fun b hb => .inr (by omega), (hrl.dt y (List.mem_of_getElem? hy)).2⟩
  · exact (hrl.ct.keep fun b hb _ => hko b hb.2).mono fun b hb => .inl hb.1
  · obtain ⟨A', c', e1, e2, e3⟩ := own_form ho5
    injection e1 with e1 e1' e1''
    subst e1''
    exact ⟨e2, e3⟩
  · intro hA
    rcases ho5.2 with ⟨h1, _⟩ | ⟨g, cap, cur, h1, _⟩
    · injection h1
    · injection h1 with h1
      rw [hA] at h1
      cases h1
theorem own_some {w : World} {B e size n c m : Nat} {A : Option Addr} {xs : List Value} (h : w.ownsRow B e size (.slice A n c) m xs) (hn : 0 < n) : ∃ g, A = some ⟨g, 0, none⟩ ∧ B ≤ g ∧ g < w.heap.size := by
  rcases h.2 with ⟨h1, _⟩ | ⟨g, cap, cur, h1, h2, h3, _⟩
  · injection h1 with _ h1
    omega
  · injection h1 with h1
    subst h1
    have := own_lt h g rfl
    exact ⟨g, rfl, this⟩
set_option maxHeartbeats 3200000 in
theorem turnR_yes (r : Rn) (z : Int) (m jj kk : Nat) (w : World) {ok : Nat → Prop} (hr : RN w ok r) (j : Nat) (y : Ic) (hy : r.l[j]? = some y) (hz : byId z y = true) (hne : ∀ x ∈ r.l.take j, byId z x = false) (hjj : jj = m / 8) (hkk : kk = m % 8) (hbit : jj < y.n) (c : UInt8) (hc : y.d[jj]? = some c) :
    Calls Tryd.prog 17 #[rnA r, .int .i64 z, .int .i64 (m : Nat)] w (TurnRY w ok r j y (y.d.set jj (c ^^^ ((1 : UInt8) <<< UInt8.ofNat kk)))) := by
  have hf := fun W (hW : Below w.heap.size w W) => findR_any r z W (hr.below hW)
  have hrl := hr.lt
  have hn1 := hr.n1
  have hlen := hr.len
  obtain ⟨lim, last, LA, ln, lc, l, CA, cn, cc, cuts⟩ := r
  unfold rnA at hf ⊢
  dsimp only at hf hy hne hn1 hlen ⊢
  have hjn : j < ln := by have := (List.getElem?_eq_some_iff.1 hy).1; omega
  obtain ⟨W0, hW0⟩ : ∃ W0, W0 = (w.alloc (.cells #[.int .i64 lim, .int .i64 last, .slice LA ln lc, .slice CA cn cc] 46)).alloc (.cells #[.int .i64 0, .int .i64 0, .slice none 0 0, .slice none 0 0] 46) := ⟨_, rfl⟩
  have b0 : Bx W0 w.heap.size #[.int .i64 lim, .int .i64 last, .slice LA ln lc, .slice CA cn cc] := by subst hW0; exact (Bx.new _ _ _ rfl).alloc _
  have b1 : Bx W0 (w.heap.size + 1) #[.int .i64 0, .int .i64 0, .slice none 0 0, .slice none 0 0] := by subst hW0; exact Bx.new _ _ _ (by simp)
  have hbe : Below w.heap.size w W0 := by subst hW0; exact ((Below.refl _ _).alloc (Nat.le_refl _) _).alloc (by simp) _
  have hz0 : w.heap.size + 2 ≤ W0.heap.size := by subst hW0; simp
  obtain ⟨k0, k1, k2, k3, -⟩ := b0.c4
  have Hf := Lib.hid hf
  have B0 := Lib.hid b0
  have B1 := Lib.hid b1
  have Hbe := Lib.hid hbe
  have HW := Lib.hid hW0
  have Hy := Lib.hid (And.intro hy (And.intro hz hne))
  have Hrl := Lib.hid hrl
  have Hz0 := Lib.hid hz0
  have Hlen := Lib.hid hlen
  clear hf hr b0 b1 hbe hW0 hy hz hne hrl hlen hz0
  go_enter Tryd.func17, Tryd.ntmps17
  go_wp2_with fail
  rw [← HW.out]
  refine (Hf.out _ Hbe.out).mono ?_
  rintro e w1 ⟨k, rfl, hat, hb⟩
  obtain rfl := at_yes hat Hy.out.1 Hy.out.2.1 Hy.out.2.2
  clear k0 k1 k2 k3
  have c0 := B0.out.below hb
  have c1 := B1.out.below hb
  have hb1 := Hbe.out.trans (hb.mono Hbe.out.size)
  have hz1 := Nat.le_trans Hz0.out hb.size
  have hdt := Hrl.out.dt y (List.mem_of_getElem? Hy.out.1)
  have hyl := hdt.1.blen
  have hyn := hdt.2
  have hrdL := Hrl.out.it.below hb1
  have hrdD := hdt.1.below hb1
  obtain ⟨bb, o, x, hLA, -, hbl, hx, q0, q1, q2, q3⟩ := ic_cells hrdL hjn
  dsimp only at hLA hrdL
  subst hLA
  obtain rfl : y = x := by have := Hy.out.1.symm.trans hx; simpa using this
  obtain ⟨k0, k1, k2, k3, -⟩ := c0.c4
  have hjI : (j : Int) < ln := by omega
  have hjd : decide ((j : Int) < 0) = false := by simp
  have hj0 : ¬ ((j : Int) < 0) := by omega
  have hm0 : ¬ (m : Int) < 0 := by omega
  have hmd : decide ((m : Int) < 0) = false := by simp
  have e1 : ((m : Int) / 8) = (jj : Int) := by omega
  have e2 : ((m : Int) % 8) = (kk : Int) := by omega
  have e3 : (m : Int).tmod 8 = (kk : Int) := by rw [Int.tmod_eq_emod_of_nonneg (by omega)]; exact e2
  have hwj : IntKind.i64.wrap ((jj : Nat) : Int) = (jj : Int) := by rw [IntKind.wrap_i64]; omega
  have hwk : IntKind.i64.wrap ((kk : Nat) : Int) = (kk : Int) := by rw [IntKind.wrap_i64]; omega
  have hjd2 : decide ((y.n : Int) ≤ (jj : Int)) = false := by simp; omega
  have hjd3 : ¬ (y.n : Int) ≤ (jj : Int) := by omega
  have hjyI : (jj : Int) < (y.n : Int) := by omega
  have hj1 : (0 : Int) ≤ jj := by omega
  have hk1 : (0 : Int) ≤ kk := by omega
  have hk8 : (kk : Int) < 8 := by omega
  have hk8n : kk < 8 := by omega
  have C0 := Lib.hid c0
  have C1 := Lib.hid c1
  have Hb1 := Lib.hid hb1
  have Hz1 := Lib.hid hz1
  have Hyl := Lib.hid hyl
  have HL := Lib.hid hrdL
  have HD := Lib.hid hrdD
  have H1 := Lib.hid (icell_one l)
  have H2 := Lib.hid (bs_one y.d)
  have Hjj := Lib.hid (And.intro hjj hkk)
  have Hc := Lib.hid hc
  have hyn2 : y.n ≤ 5000 := hyn
  clear hb hb1 hat hx c0 c1 hz1 hdt hyl hrdL hrdD hjj hkk hc hyn
  go_wp2_with (at_builtin; first | (refine wpList_append_any (xs := []) (news := flat icell l) w1 Tryd.underlying43 ritem_elem rfl (by omega) rfl rfl rfl (own_nil _ w1.heap.size 50 4 0 rfl) rfl HL.out H1.out (by omega) (Nat.le_refl _) (Nat.zero_add _) (List.nil_append _) ?_; intro A5 c5 wa hown5 hg5 hat5; have hba : Below w1.heap.size w1 wa := (Below.refl _ _).grown hg5 (Nat.le_refl _) (by simp); have Hown5 := Lib.hid hown5; have Hba := Lib.hid hba; obtain ⟨k0a, k1a, k2a, k3a, -⟩ := (C0.out.below hba).c4; have q3a := (hba.cell (p := ⟨bb, o + j * 4 + 3, none⟩) hbl).trans q3; clear hown5 hg5 hat5 hba) | (refine wpList_append_any (xs := []) (news := bs y.d) wa Tryd.underlying30 u8_elem rfl (by omega) rfl rfl rfl (own_nil _ wa.heap.size 5 1 0 rfl) rfl (HD.out.below Hba.out) H2.out (by omega) (Nat.le_refl _) (Nat.zero_add _) (List.nil_append _) ?_; intro A6 c6 wb hown6 hg6 hat6; have hbb : Below wa.heap.size wa wb := (Below.refl _ _).grown hg6 (Nat.le_refl _) (by simp); have Hown6 := Lib.hid hown6; have Hbb := Lib.hid hbb; clear hown6 hg6 hat6 hbb))
  obtain ⟨b6, rfl, hb6, hl6⟩ := own_some Hown6.out (by omega)
  obtain ⟨b5, rfl, hb5, hl5⟩ := own_some Hown5.out (by omega)
  have hsa := Hba.out.size
  have hsb := Hbb.out.size
  have hcb : wb.cell? ⟨b6, jj, none⟩ = some (.int .u8 (c.toNat : Int)) := by
    rw [Hown6.out.cellAt jj (by omega)]
    simp [bs, Hc.out]
  have hfb := Hown6.out.frozenAt jj
  obtain ⟨q, hq⟩ : ∃ q : UInt8, q = (1 : UInt8) <<< UInt8.ofNat kk := ⟨_, rfl⟩
  have hget : ∀ h, ([.int .u8 1, .int .u8 2, .int .u8 4, .int .u8 8, .int .u8 16, .int .u8 32, .int .u8 64, .int .u8 128] : List Value)[kk]'h = .int .u8 (q.toNat : Int) := by
    intro h
    have h1 := pows_at kk hk8n
    unfold pows at h1
    rw [List.getElem?_eq_getElem h] at h1
    rw [hq]
    exact Option.some.inj h1
  have hxor : bits .xor .u8 (c.toNat : Int) (q.toNat : Int) = ((c ^^^ q).toNat : Int) := by rw [hq]; exact xor_bits c kk hk8n
  have hvl : (wb.drew.alloc (.cells #[.int .u8 1, .int .u8 2, .int .u8 4, .int .u8 8, .int .u8 16, .int .u8 32, .int .u8 64, .int .u8 128] 5)).cell? ⟨b6, jj, none⟩ = some (.int .u8 (c.toNat : Int)) := (((Below.refl wb.heap.size wb).drew.alloc (Nat.le_refl _) (.cells #[.int .u8 1, .int .u8 2, .int .u8 4, .int .u8 8, .int .u8 16, .int .u8 32, .int .u8 64, .int .u8 128] 5)).cell (p := ⟨b6, jj, none⟩) hl6).trans hcb
  have hfl : (wb.drew.alloc (.cells #[.int .u8 1, .int .u8 2, .int .u8 4, .int .u8 8, .int .u8 16, .int .u8 32, .int .u8 64, .int .u8 128] 5)).frozen? ⟨b6, jj, none⟩ = false := (((Below.refl wb.heap.size wb).drew.alloc (Nat.le_refl _) (.cells #[.int .u8 1, .int .u8 2, .int .u8 4, .int .u8 8, .int .u8 16, .int .u8 32, .int .u8 64, .int .u8 128] 5)).frozen (p := ⟨b6, jj, none⟩) hl6).trans hfb
  have Hq := Lib.hid hq
  have Hxor := Lib.hid hxor
  have s0 : wb.drew.cell? ⟨b6, jj, none⟩ = some (.int .u8 (c.toNat : Int)) ∧ Below wb.heap.size wb wb.drew := ⟨hcb, (Below.refl _ _).drew⟩
  clear hq hxor k0 k1 k2 k3 q0 q1 q2 q3 k0a k1a k2a k3a q3a
  refine wp_region_M 15 (fun W => W.cell? ⟨b6, jj, none⟩ = some (.int .u8 (c.toNat : Int)) ∧ Below wb.heap.size wb W) (by kernel_rfl) s0 (fun hS => ?_)
  refine wpAnyM_take (i := 0) (v := ?_) rfl (by kernel_rfl) (by kernel_rfl) (by kernel_rfl) (by kernel_rfl) (fun _ _ _ h => h) hS (by rfl) ?_ ?_
  rotate_left
  · rintro W ⟨s1, -⟩
    go_simp
    try with_reducible rfl
  try simp only [Act.put, List.setIfInBounds_toArray, List.set_cons_zero, List.set_cons_succ]
  refine wpAnyM_take (i := 1) (v := ?_) rfl (by kernel_rfl) (by kernel_rfl) (by kernel_rfl) (by kernel_rfl) (fun _ _ _ h => h) hS (by rfl) ?_ ?_
  rotate_left
  · rintro W ⟨s1, -⟩
    go_simp
    try with_reducible rfl
  try simp only [Act.put, List.setIfInBounds_toArray, List.set_cons_zero, List.set_cons_succ]
  refine wpAnyM_take (i := 2) (v := ?_) rfl (by kernel_rfl) (by kernel_rfl) (by kernel_rfl) (by kernel_rfl) (fun _ _ _ h => h) hS (by rfl) ?_ ?_
  rotate_left
  · rintro W ⟨s1, -⟩
    go_simp
    try with_reducible rfl
  try simp only [Act.put, List.setIfInBounds_toArray, List.set_cons_zero, List.set_cons_succ]
  refine wpAnyM_take (i := 3) (v := ?_) rfl (by kernel_rfl) (by kernel_rfl) (by kernel_rfl) (by kernel_rfl) (fun _ _ _ h => h) hS (by rfl) ?_ ?_
  rotate_left
  · rintro W ⟨s1, -⟩
    go_simp
    try with_reducible rfl
  try simp only [Act.put, List.setIfInBounds_toArray, List.set_cons_zero, List.set_cons_succ]
  refine wpAnyM_take (i := 4) (v := ?_) rfl (by kernel_rfl) (by kernel_rfl) (by kernel_rfl) (by kernel_rfl) (fun _ _ _ h => h) hS (by rfl) ?_ ?_
  rotate_left
  · rintro W ⟨s1, -⟩
    go_simp
    try with_reducible rfl
  try simp only [Act.put, List.setIfInBounds_toArray, List.set_cons_zero, List.set_cons_succ]
  refine wpAnyM_take (i := 5) (v := ?_) rfl (by kernel_rfl) (by kernel_rfl) (by kernel_rfl) (by kernel_rfl) (fun _ _ _ h => h) hS (by rfl) ?_ ?_
  rotate_left
  · rintro W ⟨s1, -⟩
    go_simp
    try with_reducible rfl
  try simp only [Act.put, List.setIfInBounds_toArray, List.set_cons_zero, List.set_cons_succ]
  refine wpAnyM_take (i := 6) (v := ?_) rfl (by kernel_rfl) (by kernel_rfl) (by kernel_rfl) (by kernel_rfl) (fun _ _ _ h => h) hS (by rfl) ?_ ?_
  rotate_left
  · rintro W ⟨s1, -⟩
    go_simp
    try with_reducible rfl
  try simp only [Act.put, List.setIfInBounds_toArray, List.set_cons_zero, List.set_cons_succ]
  refine wpAnyM_take (i := 7) (v := ?_) rfl (by kernel_rfl) (by kernel_rfl) (by kernel_rfl) (by kernel_rfl) (fun _ _ _ h => h) hS (by rfl) ?_ ?_
  rotate_left
  · rintro W ⟨s1, -⟩
    go_simp
    try with_reducible rfl
  try simp only [Act.put, List.setIfInBounds_toArray, List.set_cons_zero, List.set_cons_succ]
  refine wpAnyM_take (i := 9) (v := ?_) rfl (by kernel_rfl) (by kernel_rfl) (by kernel_rfl) (by kernel_rfl) (fun _ _ _ h => h) hS (by rfl) ?_ ?_
  rotate_left
  · rintro W ⟨s1, -⟩
    go_simp
    try with_reducible rfl
  try simp only [Act.put, List.setIfInBounds_toArray, List.set_cons_zero, List.set_cons_succ]
  refine wpAnyM_take (i := 10) (v := ?_) rfl (by kernel_rfl) (by kernel_rfl) (by kernel_rfl) (by kernel_rfl) (fun _ _ _ h => h) hS (by rfl) ?_ ?_
  rotate_left
  · rintro W ⟨s1, -⟩
    go_simp
    try with_reducible rfl
  try simp only [Act.put, List.setIfInBounds_toArray, List.set_cons_zero, List.set_cons_succ]
  refine wpAnyM_one (i := 8) (by kernel_rfl) rfl (fun K hK => ?_)
  go_simp
  refine hK _ _ (fun _ => ⟨hvl, (Below.refl _ _).drew.alloc (Nat.le_refl _) _⟩) ?_
  clear hK K
  try simp only [Act.put, List.setIfInBounds_toArray, List.set_cons_zero, List.set_cons_succ]
  clear hS s0
  have hS : (wb.drew.alloc (.cells #[.int .u8 1, .int .u8 2, .int .u8 4, .int .u8 8, .int .u8 16, .int .u8 32, .int .u8 64, .int .u8 128] 5)).cell? ⟨b6, jj, none⟩ = some (.int .u8 (c.toNat : Int)) ∧ Below wb.heap.size wb (wb.drew.alloc (.cells #[.int .u8 1, .int .u8 2, .int .u8 4, .int .u8 8, .int .u8 16, .int .u8 32, .int .u8 64, .int .u8 128] 5)) := ⟨hvl, (Below.refl _ _).drew.alloc (Nat.le_refl _) _⟩
  refine wpAnyM_take (i := 11) (v := ?_) rfl (by kernel_rfl) (by kernel_rfl) (by kernel_rfl) (by kernel_rfl) (fun _ _ _ h => h) hS (by rfl) ?_ ?_
  rotate_left
  · rintro W ⟨s1, -⟩
    go_simp
    try with_reducible rfl
  try simp only [Act.put, List.setIfInBounds_toArray, List.set_cons_zero, List.set_cons_succ]
  refine wpAnyM_one (i := 12) (by kernel_rfl) rfl (fun K hK => ?_)
  go_simp
  refine hK _ _ (fun _ => hS) ?_
  clear hK K
  try simp only [Act.put, List.setIfInBounds_toArray, List.set_cons_zero, List.set_cons_succ]
  refine wpAnyM_take (i := 13) (v := ?_) rfl (by kernel_rfl) (by kernel_rfl) (by kernel_rfl) (by kernel_rfl) (fun _ _ _ h => h) hS (by rfl) ?_ ?_
  rotate_left
  · rintro W ⟨s1, -⟩
    go_simp
    try with_reducible rfl
  try simp only [Act.put, List.setIfInBounds_toArray, List.set_cons_zero, List.set_cons_succ]
  refine wpAnyM_take (i := 14) (v := ?_) rfl (by kernel_rfl) (by kernel_rfl) (by kernel_rfl) (by kernel_rfl) (fun _ _ _ h => h) hS (by rfl) ?_ ?_
  rotate_left
  · rintro W ⟨s1, -⟩
    go_simp
    try with_reducible rfl
  try simp only [Act.put, List.setIfInBounds_toArray, List.set_cons_zero, List.set_cons_succ]
  refine wpAnyM_one (i := 15) (by kernel_rfl) rfl (fun K hK => ?_)
  go_simp
  refine hK _ _ (fun h => absurd rfl h) ?_
  clear hK K hS
  try simp only [Act.put, List.setIfInBounds_toArray, List.set_cons_zero, List.set_cons_succ]
  refine wpAnyM_done (by kernel_rfl) ?_ _
  rw [Hxor.out]
  have hz1 := Hz1.out
  have hb6w : b6 ≠ w.heap.size := by omega
  have hb6w1 : b6 ≠ w.heap.size + 1 := by omega
  have hb56 : b5 ≠ b6 := by omega
  have t6 := ((Hown6.out.stored jj (.int .u8 ((c ^^^ q).toNat : Int))).1.alloc (.cells #[.int .u8 1, .int .u8 2, .int .u8 4, .int .u8 8, .int .u8 16, .int .u8 32, .int .u8 64, .int .u8 128] 5)).drew
  have t5 := ((own_same (w' := wb.setCell ⟨b6, jj, none⟩ (.int .u8 ((c ^^^ q).toNat : Int))) (own_below Hown5.out Hbb.out) (fun k hk => by
    obtain rfl := Option.some.inj hk
    exact Below.heap_setCell _ _ _ _ hb56)).alloc (.cells #[.int .u8 1, .int .u8 2, .int .u8 4, .int .u8 8, .int .u8 16, .int .u8 32, .int .u8 64, .int .u8 128] 5)).drew
  have x0 := (((((C0.out.below Hba.out).below Hbb.out).far (p := ⟨b6, jj, none⟩) hb6w.symm (.int .u8 ((c ^^^ q).toNat : Int))).alloc (.cells #[.int .u8 1, .int .u8 2, .int .u8 4, .int .u8 8, .int .u8 16, .int .u8 32, .int .u8 64, .int .u8 128] 5))).drew
  have x1 := (((((C1.out.below Hba.out).below Hbb.out).far (p := ⟨b6, jj, none⟩) hb6w1.symm (.int .u8 ((c ^^^ q).toNat : Int))).alloc (.cells #[.int .u8 1, .int .u8 2, .int .u8 4, .int .u8 8, .int .u8 16, .int .u8 32, .int .u8 64, .int .u8 128] 5))).drew
  have hbe3 : Below w.heap.size w ((wb.setCell ⟨b6, jj, none⟩ (.int .u8 ((c ^^^ q).toNat : Int))).alloc (.cells #[.int .u8 1, .int .u8 2, .int .u8 4, .int .u8 8, .int .u8 16, .int .u8 32, .int .u8 64, .int .u8 128] 5)).drew := ((((Hb1.out.trans (Hba.out.mono (by omega))).trans (Hbb.out.mono (by omega))).setCell (by show w.heap.size ≤ b6; omega) _).alloc (by simp [World.setCell]; omega) _).drew
  obtain ⟨wc, hwc⟩ : ∃ wc, wc = ((wb.setCell ⟨b6, jj, none⟩ (.int .u8 ((c ^^^ q).toNat : Int))).alloc (.cells #[.int .u8 1, .int .u8 2, .int .u8 4, .int .u8 8, .int .u8 16, .int .u8 32, .int .u8 64, .int .u8 128] 5)).drew := ⟨_, rfl⟩
  have t6' := t6
  rw [← hwc] at t6' t5 x0 x1 hbe3 ⊢
  rw [show (bs y.d).set jj (.int .u8 ((c ^^^ q).toNat : Int)) = bs (y.d.set jj (c ^^^ q)) by simp [bs, List.map_set]] at t6'
  have hjl : j * 4 + 3 < ln * 4 := by omega
  have v5 : ∃ v, wc.cell? ⟨b5, j * 4 + 3, none⟩ = some v := ⟨_, (t5.cellAt (j * 4 + 3) hjl).trans (List.getElem?_eq_getElem (by rw [flat_length icell_len, Hlen.out]; exact hjl))⟩
  obtain ⟨v, v5⟩ := v5
  have f5 := t5.frozenAt (j * 4 + 3)
  obtain ⟨k0, k1, k2, k3, g0, g1, g2, g3⟩ := x0.c4
  obtain ⟨r0, r1, r2, r3, f0, f1, f2, f3⟩ := x1.c4
  have hn1' : ¬ b5 = w.heap.size := by omega
  have hn2' : ¬ b5 = w.heap.size + 1 := by omega
  have hn3' : ¬ w.heap.size = b5 := by omega
  have hn4' : ¬ w.heap.size + 1 = b5 := by omega
  have u5 := (t5.stored (j * 4 + 3) (.slice (some ⟨b6, 0, none⟩) y.n c6)).1
  have u6 := own_same (w' := wc.setCell ⟨b5, j * 4 + 3, none⟩ (.slice (some ⟨b6, 0, none⟩) y.n c6)) t6' (fun k hk => by
    obtain rfl := Option.some.inj hk
    exact Below.heap_setCell _ _ _ _ hb56.symm)
  have U5 := Lib.hid u5
  have U6 := Lib.hid u6
  have Hbe3 := Lib.hid hbe3
  have Hbs := Lib.hid (And.intro hz1 (And.intro hsa hsb))
  clear t6 t5 t6' x0 x1 hbe3 hwc u5 u6 hcb hfb hvl hfl hget
  go_wp2_with fail
  refine bodyPost_ret (by simp [results, Tryd.results17, go_sem, r0, r1, r2, r3, hn1', hn2', hn3', hn4']; rfl) rfl ?_
  rw [← Hq.out]
  have hend := fun W' h1 h2 => turnR_end (W' := W') Hrl.out Hy.out.1 U5.out U6.out hz1 (by omega) h1 h2
  have Hend := Lib.hid hend
  clear hend
  refine Hend.out _ ?_ ?_
  · intro b hb
    have hg1 : b ≠ w.heap.size + 1 := by omega
    have hg2 : b ≠ w.heap.size := by omega
    rw [four_heap hg1, Below.heap_setCell _ _ _ b hg2]
  · exact below_four ((Hbe3.out.setCell (by show w.heap.size ≤ b5; omega) _).setCell (Nat.le_refl _) _) (by omega) _ _ _ _
end Go.Proofs.YtckpinnnmafdgaaDoor
