/- Walks of entry.Term, entry.Compact.
   Walks: entry.Last, Term, Compact of any log; the document's Term, Compact.
   Walk of the law's longEntries.
   Walks: the law's entries, sameLog
   Walks: the law's sameLog; entry.Check.
   Walks: entry.From, the document's From. -/
import Derived.Test.YtmhaahcbmdhinaaGreatDoorZM8
import Derived.Test.YtmhaahcbmdhinaaGreatDoorZM12
import Derived.Test.YtmhaahcbmdhinaaGreatDoorZM6
import Derived.Test.YtmhaahcbmdhinaaGreatDoorZM7
import Derived.Deep.LoopGhost
namespace Go.Proofs.YtmhaahcbmdhinaaGreatDoor
open Go.RowKit
set_option maxRecDepth 100000
set_option linter.unusedVariables false
set_option linter.unusedSimpArgs false
set_option maxHeartbeats 1600000 in
theorem Term_any (b t ix : Int) (A : Option Addr) (n c : Nat) (L : List Er) (w : World) {ok : Nat → Prop} (hr : Rd w ok 4 A n (flat ecell L)) (hw : Wel L) (hm : lmay b t (L.map en) = true) (hn : n ≤ 1000000) :
  Calls Tryz.prog 119 #[.agg #[.int .i64 b, .int .i64 t, .slice A n c], .int .i64 ix] w (TermPost w (termL b t (L.map en) ix)) := by
 have hmm := fun ob => may_any b t A n c L (w.alloc ob) (hr.alloc ob) hw hn
 have hl := fun W (hb : Below w.heap.size w W) => term_any b t ix A n c L W (hr.below hb) hm hn
 rw [hm] at hmm
 generalize termL b t (L.map en) ix = x at hl
 have Bb := Lib.hid (Bx.new w #[.int .i64 b, .int .i64 t, .slice A n c] 38 rfl)
 have Hmm := Lib.hid hmm
 have Hl := Lib.hid hl
 clear hmm hl hr hw hm
 go_enter Tryz.func119, Tryz.ntmps119
 go_wp2_with fail
 refine (Hmm.out _).mono ?_
 rintro e w2 ⟨rfl, hb2⟩
 obtain ⟨k0, k1, k2, -⟩ := (Bb.out.below hb2).c3
 have hb3 := ((Below.refl w.heap.size w).alloc (Nat.le_refl _) (.cells #[.int .i64 b, .int .i64 t, .slice A n c] 38)).trans (hb2.mono (by simp))
 clear hb2
 go_wp2_with fail
 refine (Hl.out _ hb3).mono ?_
 rintro e w3 ⟨rfl, hb4⟩
 go_wp2_with fail
 go_ret2
 exact ⟨rfl, hb3.trans (hb4.mono hb3.size)⟩
theorem LastA_any (b t : Int) (A : Option Addr) (n c : Nat) (L : List Er) (w : World) {ok : Nat → Prop} (hr : Rd w ok 4 A n (flat ecell L)) (hw : Wel L) (hn : n ≤ 1000000) :
  Calls Tryz.prog 26 #[.agg #[.int .i64 b, .int .i64 t, .slice A n c]] w (TwoInt w (if lmay b t (L.map en) then lstA b (L.map en) else 0) (if lmay b t (L.map en) then lstB t (L.map en) else 0)) := by
 by_cases hm : lmay b t (L.map en) = true
 ·rw [if_pos hm, if_pos hm]
  exact Last_any b t A n c L w hr hw hm hn
 ·rw [Bool.not_eq_true] at hm
  rw [hm]
  have hmm := fun ob => may_any b t A n c L (w.alloc ob) (hr.alloc ob) hw hn
  rw [hm] at hmm
  have Hmm := Lib.hid hmm
  clear hmm hr hw hm
  go_enter Tryz.func26, Tryz.ntmps26
  go_wp2_with fail
  refine (Hmm.out _).mono ?_
  rintro e w2 ⟨rfl, hb2⟩
  have hb3 := ((Below.refl w.heap.size w).alloc (Nat.le_refl _) (.cells #[.int .i64 b, .int .i64 t, .slice A n c] 38)).trans (hb2.mono (by simp))
  clear hb2
  go_wp2_with fail
  go_ret2
  exact ⟨rfl, hb3⟩
theorem TermA_any (b t ix : Int) (A : Option Addr) (n c : Nat) (L : List Er) (w : World) {ok : Nat → Prop} (hr : Rd w ok 4 A n (flat ecell L)) (hw : Wel L) (hn : n ≤ 1000000) :
  Calls Tryz.prog 119 #[.agg #[.int .i64 b, .int .i64 t, .slice A n c], .int .i64 ix] w (TermPost w (compL b t (L.map en) ix)) := by
 by_cases hm : lmay b t (L.map en) = true
 ·rw [compL_yes hm]
  exact Term_any b t ix A n c L w hr hw hm hn
 ·rw [Bool.not_eq_true] at hm
  rw [compL_no hm]
  have hmm := fun ob => may_any b t A n c L (w.alloc ob) (hr.alloc ob) hw hn
  rw [hm] at hmm
  have Hmm := Lib.hid hmm
  clear hmm hr hw hm
  go_enter Tryz.func119, Tryz.ntmps119
  go_wp2_with fail
  refine (Hmm.out _).mono ?_
  rintro e w2 ⟨rfl, hb2⟩
  have hb3 := ((Below.refl w.heap.size w).alloc (Nat.le_refl _) (.cells #[.int .i64 b, .int .i64 t, .slice A n c] 38)).trans (hb2.mono (by simp))
  clear hb2
  go_wp2_with fail
  go_ret2
  exact ⟨rfl, hb3⟩
def fromL (b t : Int) (l : List En) (ix most : Int) : List En := if lmay b t l = true ∧ b < ix then (l.drop (ix - b - 1).toNat).take most.toNat else []
def FromPost (W : World) (l : List En) (e : Ending) (w' : World) : Prop := ∃ A n c L', e = .returned (.slice A n c) ∧ Ro w' W.heap.size A n c L' ∧ L'.map en = l ∧ Below W.heap.size W w'
theorem fromL_nil {b t : Int} {l : List En} {ix most : Int} (hm : lmay b t l = true → lstA b l = b + l.length) (h : lmay b t l = false ∨ ix ≤ b ∨ lstA b l < ix ∨ most < 1) : fromL b t l ix most = [] := by
 unfold fromL
 by_cases hc : lmay b t l = true ∧ b < ix
 ·rw [if_pos hc]
  have h1 := hm hc.1
  rcases h with h | h | h | h
  ·rw [hc.1] at h; cases h
  ·omega
  ·rw [List.drop_of_length_le (by omega)]; simp
  ·rw [show most.toNat = 0 by omega]; simp
 ·rw [if_neg hc]
set_option maxHeartbeats 1600000 in
theorem from_nil (b t ix most : Int) (A : Option Addr) (n c : Nat) (L : List Er) (w : World) {ok : Nat → Prop} (hr : Rd w ok 4 A n (flat ecell L)) (hw : Wel L) (hn : n ≤ 1000000) (h : lmay b t (L.map en) = false ∨ (lmay b t (L.map en) = true ∧ (ix ≤ b ∨ (b < ix ∧ (lstA b (L.map en) < ix ∨ (ix ≤ lstA b (L.map en) ∧ most < 1)))))) :
  Calls Tryz.prog 168 #[.agg #[.int .i64 b, .int .i64 t, .slice A n c], .int .i64 ix, .int .i64 most] w fun e w' => e = .returned (.slice none 0 0) ∧ Below w.heap.size w w' := by
 have hm := fun W (hW : Below w.heap.size w W) => may_any b t A n c L W (hr.below hW) hw hn
 have hl := fun W (hW : Below w.heap.size w W) => last_any b t A n c L W (hr.below hW) hn
 generalize lmay b t (L.map en) = q at hm h
 generalize lstA b (L.map en) = la at hl h
 generalize lstB t (L.map en) = lb at hl
 have Hm := Lib.hid hm
 have Hl := Lib.hid hl
 have Bb := Lib.hid (Bx.new w #[.int .i64 b, .int .i64 t, .slice A n c] 38 rfl)
 have Ba := Lib.hid ((Below.refl w.heap.size w).alloc (Nat.le_refl _) (.cells #[.int .i64 b, .int .i64 t, .slice A n c] 38))
 clear hm hl hr hw
 have hc : q = false ∨ (q = true ∧ ix ≤ b) ∨ (q = true ∧ ¬ ix ≤ b ∧ la < ix) ∨ (q = true ∧ ¬ ix ≤ b ∧ ¬ la < ix ∧ most < 1) := by
  rcases h with h | ⟨h, h1 | ⟨h1, h2 | ⟨h2, h3⟩⟩⟩
  ·exact .inl h
  ·exact .inr (.inl ⟨h, h1⟩)
  ·exact .inr (.inr (.inl ⟨h, by omega, h2⟩))
  ·exact .inr (.inr (.inr ⟨h, by omega, by omega, h3⟩))
 clear h
 go_enter Tryz.func168, Tryz.ntmps168
 go_wp2_with fail
 refine (Hl.out _ Ba.out).mono ?_
 rintro e w1 ⟨rfl, hb1⟩
 obtain ⟨k0, k1, k2, -⟩ := (Bb.out.below hb1).c3
 have hb2 := Ba.out.trans (hb1.mono Ba.out.size)
 have B2 := Lib.hid hb2
 have Bb1 := Lib.hid (Bb.out.below hb1)
 clear hb1 hb2
 go_wp2_with fail
 refine (Hm.out _ B2.out).mono ?_
 rintro e w2 ⟨rfl, hb3⟩
 clear k0 k1 k2
 obtain ⟨k0, k1, k2, -⟩ := (Bb1.out.below hb3).c3
 have hb4 := B2.out.trans (hb3.mono B2.out.size)
 have B4 := Lib.hid hb4
 clear hb3 hb4
 rcases hc with rfl | ⟨rfl, h1⟩ | ⟨rfl, h1, h2⟩ | ⟨rfl, h1, h2, h3⟩
 ·go_wp2_with fail
  go_ret
  exact ⟨rfl, B4.out⟩
 ·go_wp2_with fail
  go_ret
  exact ⟨rfl, B4.out⟩
 ·have hd1 : decide (ix ≤ b) = false := by simpa using h1
  go_wp2_with fail
  go_ret
  exact ⟨rfl, B4.out⟩
 ·have hd1 : decide (ix ≤ b) = false := by simpa using h1
  have hd2 : decide (la < ix) = false := by simpa using h2
  go_wp2_with fail
  go_ret
  exact ⟨rfl, B4.out⟩
set_option maxHeartbeats 3200000 in
theorem from_some (b t ix most : Int) (A : Option Addr) (n c : Nat) (L : List Er) (w : World) (hr : Rd w T 4 A n (flat ecell L)) (hd : Dat w L) (hs : ∀ x ∈ L, x.n ≤ 1000000) (hw : Wel L) (hn : n ≤ 1000000) (hnc : n ≤ c) (hcm : c ≤ maxLen) (hm : lmay b t (L.map en) = true) (h1 : b < ix) (h2 : ix ≤ lstA b (L.map en)) (h3 : 1 ≤ most) :
  Calls Tryz.prog 168 #[.agg #[.int .i64 b, .int .i64 t, .slice A n c], .int .i64 ix, .int .i64 most] w (FromPost w (((L.map en).drop (ix - b - 1).toNat).take most.toNat)) := by
 have hma := fun W (hW : Below w.heap.size w W) => may_any b t A n c L W (hr.below hW) hw hn
 have hl := fun W (hW : Below w.heap.size w W) => last_any b t A n c L W (hr.below hW) hn
 rw [hm] at hma
 have hlen := hr.flen ecell_len (by omega)
 have hll := lmay_last hm
 rw [List.length_map, hlen] at hll
 have hbb := (lmay_iff.1 hm).1
 have hb40 : 0 ≤ b ∧ b ≤ 1099511627776 := by omega
 generalize lstA b (L.map en) = la at hl h2 hll
 generalize lstB t (L.map en) = lb at hl
 obtain ⟨pp, hpp⟩ : ∃ pp : Nat, (pp : Int) = ix - b - 1 := ⟨(ix - b - 1).toNat, by omega⟩
 have hppn : pp < n := by omega
 have hpt : (ix - b - 1).toNat = pp := by omega
 rw [hpt]
 obtain ⟨q, hq⟩ : ∃ q, q = min most.toNat (n - pp) := ⟨_, rfl⟩
 have htake : ((L.map en).drop pp).take most.toNat = ((L.drop pp).take q).map en := by
  rw [List.map_take, List.map_drop]
  rw [hq]
  by_cases hle : most.toNat ≤ n - pp
  ·rw [Nat.min_eq_left hle]
  ·rw [Nat.min_eq_right (by omega), List.take_of_length_le (by simp; omega), List.take_of_length_le (by simp; omega)]
 rw [htake]
 obtain ⟨ad, had⟩ : ∃ ad, ad = (if c = pp then A else A.map (·.add (pp * 4))) := ⟨_, rfl⟩
 have e9 : ∀ W, (Instr.sliceAt 36 (.slice A n c) (some (.int .i64 (pp : Int))) none none).run Tryz.prog W = .ok (.slice ad (n - pp) (c - pp)) W := by
  intro W
  have := run_slice_lo (P := Tryz.prog) 36 Tryz.underlying36 (size := 4) (by kernel_rfl) A n c W pp (by omega)
  rw [← had] at this
  exact this
 have hrd := (hr.cut (k := pp) (cap := c) (by omega) hnc).take (k := q) (by omega)
 rw [← had, ← flat_drop ecell_len, ← flat_take ecell_len] at hrd
 have hsub : ∀ x ∈ (L.drop pp).take q, x ∈ L := fun x hx => List.mem_of_mem_drop (List.mem_of_mem_take hx)
 have how := fun W (hW : Below w.heap.size w W) => owns_any ad q (c - pp) ((L.drop pp).take q) W (hrd.below hW) (fun x hx => (hd.below hW) x (hsub x hx)) (fun x hx => hs x (hsub x hx)) (by omega)
 have Hm := Lib.hid hma
 have Hl := Lib.hid hl
 have How := Lib.hid how
 have hixp : ix - b - 1 = (pp : Int) := by omega
 have Hixp := Lib.hid hixp
 have Hq := Lib.hid hq
 have hqc : q ≤ c - pp := by omega
 have Bb := Lib.hid (Bx.new w #[.int .i64 b, .int .i64 t, .slice A n c] 38 rfl)
 have Ba := Lib.hid ((Below.refl w.heap.size w).alloc (Nat.le_refl _) (.cells #[.int .i64 b, .int .i64 t, .slice A n c] 38))
 have hd1 : decide (ix ≤ b) = false := by simp; omega
 have hd2 : decide (la < ix) = false := by simp; omega
 have hd3 : decide (most < 1) = false := by simp; omega
 unfold maxLen at hcm
 clear hma hl hr hw hd hs hrd had how hixp hq hpt htake hpp hsub hll hm hbb
 go_enter Tryz.func168, Tryz.ntmps168
 go_wp2_with fail
 refine (Hl.out _ Ba.out).mono ?_
 rintro e w1 ⟨rfl, hb1⟩
 obtain ⟨k0, k1, k2, -⟩ := (Bb.out.below hb1).c3
 have hb2 := Ba.out.trans (hb1.mono Ba.out.size)
 have B2 := Lib.hid hb2
 have Bb1 := Lib.hid (Bb.out.below hb1)
 clear hb1 hb2
 go_wp2_with fail
 refine (Hm.out _ B2.out).mono ?_
 rintro e w2 ⟨rfl, hb3⟩
 clear k0 k1 k2
 obtain ⟨k0, k1, k2, -⟩ := (Bb1.out.below hb3).c3
 have hb4 := B2.out.trans (hb3.mono B2.out.size)
 have B4 := Lib.hid hb4
 clear hb3 hb4
 have hixp := Hixp.out
 have hw1 : IntKind.i64.wrap (ix - b) = ix - b := by rw [IntKind.wrap_i64]; omega
 go_upto_region 5 with (fail)
 clear hixp hw1
 have hmin : (min most ((n - pp : Nat) : Int)).toNat = q := by have := Hq.out; omega
 have hm0 : 0 ≤ min most ((n - pp : Nat) : Int) := by omega
 have hmc : (min most ((n - pp : Nat) : Int)).toNat ≤ c - pp := by omega
 have Hmin := Lib.hid hmin
 clear hmin
 go_wp2_with fail
 rw [Hmin.out]
 refine (How.out _ B4.out).mono ?_
 rintro e w3 ⟨A3, c3, L3, rfl, hro, hsm, hb5⟩
 go_wp2_with fail
 go_ret
 exact ⟨A3, _, c3, L3, rfl, ⟨own_lo hro.ow B4.out.size, fun x hx => ⟨(hro.dt x hx).1.mono fun b hb => ⟨Nat.le_trans B4.out.size hb.1, hb.2⟩, (hro.dt x hx).2⟩⟩, hsm, B4.out.trans (hb5.mono B4.out.size)⟩
end Go.Proofs.YtmhaahcbmdhinaaGreatDoor
