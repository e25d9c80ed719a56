/- Walks: entry.From, the document's From.
   Walk: the document's From.
   entry.From and the document's From: one contract each.
   Walk of entry.Merge where it refuses. (Printed by mkmergen.py.) Plain law of merging: no program in sight. Merge, whatever it is handed: one contract.
   Plain member: what it makes of a message. No program in sight. -/
import Derived.Test.YtmhaahcbmdhinaaGreatDoorK17
import Derived.Test.YtmhaahcbmdhinaaGreatDoorK16
import Derived.Test.YtmhaahcbmdhinaaGreatDoorK14
import Derived.Test.YtmhaahcbmdhinaaGreatDoorK11
import Derived.Test.YtmhaahcbmdhinaaGreatDoorK12
import Derived.Test.YtmhaahcbmdhinaaGreatDoorK6
namespace Go.Proofs.YtmhaahcbmdhinaaGreatDoor
open Go.RowKit
set_option maxRecDepth 100000
set_option linter.unusedVariables false
set_option linter.unusedSimpArgs false
def fromL (b t : Int) (l : List En) (ix most : Int) : List En := if lmay b t l = true ∧ b < ix then (l.drop (ix - b - 1).toNat).take most.toNat else []
def FromPost (W : World) (l : List En) (e : Ending) (w' : World) : Prop := ∃ A n c L', e = .returned (.slice A n c) ∧ Ro w' W.heap.size A n c L' ∧ L'.map en = l ∧ Below W.heap.size W w'
theorem fromL_nil {b t : Int} {l : List En} {ix most : Int} (hm : lmay b t l = true → lstA b l = b + l.length) (h : lmay b t l = false ∨ ix ≤ b ∨ lstA b l < ix ∨ most < 1) : fromL b t l ix most = [] := by
  unfold fromL
  by_cases hc : lmay b t l = true ∧ b < ix
  · rw [if_pos hc]
    have h1 := hm hc.1
    rcases h with h | h | h | h
    · rw [hc.1] at h; cases h
    · omega
    · rw [List.drop_of_length_le (by omega)]; simp
    · rw [show most.toNat = 0 by omega]; simp
  · rw [if_neg hc]
set_option maxHeartbeats 1600000 in
theorem from_nil (b t ix most : Int) (A : Option Addr) (n c : Nat) (L : List Er) (w : World) {ok : Nat → Prop} (hr : Rd w ok 4 A n (flat ecell L)) (hw : Wel L) (hn : n ≤ 1000000) (h : lmay b t (L.map en) = false ∨ (lmay b t (L.map en) = true ∧ (ix ≤ b ∨ (b < ix ∧ (lstA b (L.map en) < ix ∨ (ix ≤ lstA b (L.map en) ∧ most < 1)))))) :
    Calls Tryz.prog 168 #[.agg #[.int .i64 b, .int .i64 t, .slice A n c], .int .i64 ix, .int .i64 most] w fun e w' => e = .returned (.slice none 0 0) ∧ Below w.heap.size w w' := by
  have hm := fun W (hW : Below w.heap.size w W) => may_any b t A n c L W (hr.below hW) hw hn
  have hl := fun W (hW : Below w.heap.size w W) => last_any b t A n c L W (hr.below hW) hn
  generalize lmay b t (L.map en) = q at hm h
  generalize lstA b (L.map en) = la at hl h
  generalize lstB t (L.map en) = lb at hl
  have Hm := Lib.hid hm
  have Hl := Lib.hid hl
  have Bb := Lib.hid (Bx.new w #[.int .i64 b, .int .i64 t, .slice A n c] 38 rfl)
  have Ba := Lib.hid ((Below.refl w.heap.size w).alloc (Nat.le_refl _) (.cells #[.int .i64 b, .int .i64 t, .slice A n c] 38))
  clear hm hl hr hw
  have hc : q = false ∨ (q = true ∧ ix ≤ b) ∨ (q = true ∧ ¬ ix ≤ b ∧ la < ix) ∨ (q = true ∧ ¬ ix ≤ b ∧ ¬ la < ix ∧ most < 1) := by
    rcases h with h | ⟨h, h1 | ⟨h1, h2 | ⟨h2, h3⟩⟩⟩
    · exact .inl h
    · exact .inr (.inl ⟨h, h1⟩)
    · exact .inr (.inr (.inl ⟨h, by omega, h2⟩))
    · exact .inr (.inr (.inr ⟨h, by omega, by omega, h3⟩))
  clear h
  go_enter Tryz.func168, Tryz.ntmps168
  go_wp2_with fail
  refine (Hl.out _ Ba.out).mono ?_
  rintro e w1 ⟨rfl, hb1⟩
  obtain ⟨k0, k1, k2, -⟩ := (Bb.out.below hb1).c3
  have hb2 := Ba.out.trans (hb1.mono Ba.out.size)
  have B2 := Lib.hid hb2
  have Bb1 := Lib.hid (Bb.out.below hb1)
  clear hb1 hb2
  go_wp2_with fail
  refine (Hm.out _ B2.out).mono ?_
  rintro e w2 ⟨rfl, hb3⟩
  clear k0 k1 k2
  obtain ⟨k0, k1, k2, -⟩ := (Bb1.out.below hb3).c3
  have hb4 := B2.out.trans (hb3.mono B2.out.size)
  have B4 := Lib.hid hb4
  clear hb3 hb4
  rcases hc with rfl | ⟨rfl, h1⟩ | ⟨rfl, h1, h2⟩ | ⟨rfl, h1, h2, h3⟩
  · go_wp2_with fail
    go_ret
    exact ⟨rfl, B4.out⟩
  · go_wp2_with fail
    go_ret
    exact ⟨rfl, B4.out⟩
  · have hd1 : decide (ix ≤ b) = false := by simpa using h1
    go_wp2_with fail
    go_ret
    exact ⟨rfl, B4.out⟩
  · have hd1 : decide (ix ≤ b) = false := by simpa using h1
    have hd2 : decide (la < ix) = false := by simpa using h2
    go_wp2_with fail
    go_ret
    exact ⟨rfl, B4.out⟩
set_option maxHeartbeats 3200000 in
theorem from_some (b t ix most : Int) (A : Option Addr) (n c : Nat) (L : List Er) (w : World) (hr : Rd w T 4 A n (flat ecell L)) (hd : Dat w L) (hs : ∀ x ∈ L, x.n ≤ 1000000) (hw : Wel L) (hn : n ≤ 1000000) (hnc : n ≤ c) (hcm : c ≤ maxLen) (hm : lmay b t (L.map en) = true) (h1 : b < ix) (h2 : ix ≤ lstA b (L.map en)) (h3 : 1 ≤ most) :
    Calls Tryz.prog 168 #[.agg #[.int .i64 b, .int .i64 t, .slice A n c], .int .i64 ix, .int .i64 most] w (FromPost w (((L.map en).drop (ix - b - 1).toNat).take most.toNat)) := by
  have hma := fun W (hW : Below w.heap.size w W) => may_any b t A n c L W (hr.below hW) hw hn
  have hl := fun W (hW : Below w.heap.size w W) => last_any b t A n c L W (hr.below hW) hn
  rw [hm] at hma
  have hlen := hr.flen ecell_len (by omega)
  have hll := lmay_last hm
  rw [List.length_map, hlen] at hll
  have hbb := (lmay_iff.1 hm).1
  have hb40 : 0 ≤ b ∧ b ≤ 1099511627776 := by omega
  generalize lstA b (L.map en) = la at hl h2 hll
  generalize lstB t (L.map en) = lb at hl
  obtain ⟨pp, hpp⟩ : ∃ pp : Nat, (pp : Int) = ix - b - 1 := ⟨(ix - b - 1).toNat, by omega⟩
  have hppn : pp < n := by omega
  have hpt : (ix - b - 1).toNat = pp := by omega
  rw [hpt]
  obtain ⟨q, hq⟩ : ∃ q, q = min most.toNat (n - pp) := ⟨_, rfl⟩
  have htake : ((L.map en).drop pp).take most.toNat = ((L.drop pp).take q).map en := by
    rw [List.map_take, List.map_drop]
    rw [hq]
    by_cases hle : most.toNat ≤ n - pp
    · rw [Nat.min_eq_left hle]
    · rw [Nat.min_eq_right (by omega), List.take_of_length_le (by simp; omega), List.take_of_length_le (by simp; omega)]
  rw [htake]
  obtain ⟨ad, had⟩ : ∃ ad, ad = (if c = pp then A else A.map (·.add (pp * 4))) := ⟨_, rfl⟩
  have e9 : ∀ W, (Instr.sliceAt 36 (.slice A n c) (some (.int .i64 (pp : Int))) none none).run Tryz.prog W = .ok (.slice ad (n - pp) (c - pp)) W := by
    intro W
    have := run_slice_lo (P := Tryz.prog) 36 Tryz.underlying36 (size := 4) (by kernel_rfl) A n c W pp (by omega)
    rw [← had] at this
    exact this
  have hrd := (hr.cut (k := pp) (cap := c) (by omega) hnc).take (k := q) (by omega)
  rw [← had, ← flat_drop ecell_len, ← flat_take ecell_len] at hrd
  have hsub : ∀ x ∈ (L.drop pp).take q, x ∈ L := fun x hx => List.mem_of_mem_drop (List.mem_of_mem_take hx)
  have how := fun W (hW : Below w.heap.size w W) => owns_any ad q (c - pp) ((L.drop pp).take q) W (hrd.below hW) (fun x hx => (hd.below hW) x (hsub x hx)) (fun x hx => hs x (hsub x hx)) (by omega)
  have Hm := Lib.hid hma
  have Hl := Lib.hid hl
  have How := Lib.hid how
  have hixp : ix - b - 1 = (pp : Int) := by omega
  have Hixp := Lib.hid hixp
  have Hq := Lib.hid hq
  have hqc : q ≤ c - pp := by omega
  have Bb := Lib.hid (Bx.new w #[.int .i64 b, .int .i64 t, .slice A n c] 38 rfl)
  have Ba := Lib.hid ((Below.refl w.heap.size w).alloc (Nat.le_refl _) (.cells #[.int .i64 b, .int .i64 t, .slice A n c] 38))
  have hd1 : decide (ix ≤ b) = false := by simp; omega
  have hd2 : decide (la < ix) = false := by simp; omega
  have hd3 : decide (most < 1) = false := by simp; omega
  unfold maxLen at hcm
  clear hma hl hr hw hd hs hrd had how hixp hq hpt htake hpp hsub hll hm hbb
  go_enter Tryz.func168, Tryz.ntmps168
  go_wp2_with fail
  refine (Hl.out _ Ba.out).mono ?_
  rintro e w1 ⟨rfl, hb1⟩
  obtain ⟨k0, k1, k2, -⟩ := (Bb.out.below hb1).c3
  have hb2 := Ba.out.trans (hb1.mono Ba.out.size)
  have B2 := Lib.hid hb2
  have Bb1 := Lib.hid (Bb.out.below hb1)
  clear hb1 hb2
  go_wp2_with fail
  refine (Hm.out _ B2.out).mono ?_
  rintro e w2 ⟨rfl, hb3⟩
  clear k0 k1 k2
  obtain ⟨k0, k1, k2, -⟩ := (Bb1.out.below hb3).c3
  have hb4 := B2.out.trans (hb3.mono B2.out.size)
  have B4 := Lib.hid hb4
  clear hb3 hb4
  have hixp := Hixp.out
  have hw1 : IntKind.i64.wrap (ix - b) = ix - b := by rw [IntKind.wrap_i64]; omega
  go_upto_region 5 with (fail)
  clear hixp hw1
  have hmin : (min most ((n - pp : Nat) : Int)).toNat = q := by have := Hq.out; omega
  have hm0 : 0 ≤ min most ((n - pp : Nat) : Int) := by omega
  have hmc : (min most ((n - pp : Nat) : Int)).toNat ≤ c - pp := by omega
  have Hmin := Lib.hid hmin
  clear hmin
  go_wp2_with fail
  rw [Hmin.out]
  refine (How.out _ B4.out).mono ?_
  rintro e w3 ⟨A3, c3, L3, rfl, hro, hsm, hb5⟩
  go_wp2_with fail
  go_ret
  exact ⟨A3, _, c3, L3, rfl, ⟨own_lo hro.ow B4.out.size, fun x hx => ⟨(hro.dt x hx).1.mono fun b hb => ⟨Nat.le_trans B4.out.size hb.1, hb.2⟩, (hro.dt x hx).2⟩⟩, hsm, B4.out.trans (hb5.mono B4.out.size)⟩
end Go.Proofs.YtmhaahcbmdhinaaGreatDoor
namespace Go.Proofs.YtmhaahcbmdhinaaGreatDoor
open Go.RowKit
set_option maxRecDepth 100000
set_option linter.unusedVariables false
set_option linter.unusedSimpArgs false
theorem rent_elem : Elem Tryz.prog 104 (.agg #[.int .i64 0, .int .i64 0, .int .i64 0, .slice none 0 0]) 4 48 := by unfold Elem; kernel_rfl
def FromRPost (W : World) (L' : List Er) (e : Ending) (w' : World) : Prop := ∃ A n c, e = .returned (.slice A n c) ∧ Rd w' T 4 A n (flat ecell L') ∧ Below W.heap.size W w'
theorem fromR_nil (b t ix most : Int) (A : Option Addr) (n c : Nat) (L : List Er) (w : World) {ok : Nat → Prop} (hr : Rd w ok 4 A n (flat ecell L)) (hw : Wel L) (hn : n ≤ 1000000) (h : lmay b t (L.map en) = false ∨ (lmay b t (L.map en) = true ∧ ix ≤ b)) :
    Calls Tryz.prog 193 #[.agg #[.int .i64 b, .int .i64 t, .slice A n c], .int .i64 ix, .int .i64 most] w fun e w' => e = .returned (.slice none 0 0) ∧ Below w.heap.size w w' := by
  have hm := fun W (hW : Below w.heap.size w W) => mayR_any b t A n c L W (hr.below hW) hw hn
  have hl := fun W (hW : Below w.heap.size w W) => lastR_any b t A n c L W (hr.below hW) hw hn
  generalize (if lmay b t (L.map en) then lstA b (L.map en) else 0) = la at hl
  generalize (if lmay b t (L.map en) then lstB t (L.map en) else 0) = lb at hl
  generalize lmay b t (L.map en) = q at hm h
  have Hm := Lib.hid hm
  have Hl := Lib.hid hl
  have Bb := Lib.hid (Bx.new w #[.int .i64 b, .int .i64 t, .slice A n c] 24 rfl)
  have Ba := Lib.hid ((Below.refl w.heap.size w).alloc (Nat.le_refl _) (.cells #[.int .i64 b, .int .i64 t, .slice A n c] 24))
  clear hm hl hr hw
  go_enter Tryz.func193, Tryz.ntmps193
  go_wp2_with fail
  refine (Hl.out _ Ba.out).mono ?_
  rintro e w1 ⟨rfl, hb1⟩
  obtain ⟨k0, k1, k2, -⟩ := (Bb.out.below hb1).c3
  have hb2 := Ba.out.trans (hb1.mono Ba.out.size)
  have B2 := Lib.hid hb2
  have Bb1 := Lib.hid (Bb.out.below hb1)
  clear hb1 hb2
  go_wp2_with fail
  refine (Hm.out _ B2.out).mono ?_
  rintro e w2 ⟨rfl, hb3⟩
  clear k0 k1 k2
  obtain ⟨k0, k1, k2, -⟩ := (Bb1.out.below hb3).c3
  have hb4 := B2.out.trans (hb3.mono B2.out.size)
  have B4 := Lib.hid hb4
  clear hb3 hb4
  rcases h with rfl | ⟨rfl, h1⟩
  · go_wp2_with fail
    go_ret
    exact ⟨rfl, B4.out⟩
  · go_wp2_with fail
    go_ret
    exact ⟨rfl, B4.out⟩
theorem take_one {L : List Er} {pp j : Nat} {x : Er} (h : L[pp + j]? = some x) : (L.drop pp).take (j + 1) = (L.drop pp).take j ++ [x] := by
  have h1 : (L.drop pp)[j]? = some x := by rw [List.getElem?_drop]; exact h
  obtain ⟨h2, h3⟩ := List.getElem?_eq_some_iff.1 h1
  rw [List.take_succ_eq_append_getElem h2, h3]
set_option maxHeartbeats 3200000 in
theorem fromR_some (b t ix most : Int) (A : Option Addr) (n c : Nat) (L : List Er) (w : World) (hr : Rd w T 4 A n (flat ecell L)) (hw : Wel L) (hn : n ≤ 1000000) (hm : lmay b t (L.map en) = true) (h1 : b < ix) (h1x : ix ≤ 9223372036854775807) :
    Calls Tryz.prog 193 #[.agg #[.int .i64 b, .int .i64 t, .slice A n c], .int .i64 ix, .int .i64 most] w (FromRPost w ((L.drop (ix - b - 1).toNat).take most.toNat)) := by
  have hma := fun W (hW : Below w.heap.size w W) => mayR_any b t A n c L W (hr.below hW) hw hn
  have hl := fun W (hW : Below w.heap.size w W) => lastR_any b t A n c L W (hr.below hW) hw hn
  rw [hm, if_pos rfl, if_pos rfl] at hl
  rw [hm] at hma
  have hlen := hr.flen ecell_len (by omega)
  have hll := lmay_last hm
  rw [List.length_map, hlen] at hll
  have hbb := (lmay_iff.1 hm).1
  have hb40 : 0 ≤ b ∧ b ≤ 1099511627776 := by omega
  generalize lstA b (L.map en) = la at hl hll
  generalize lstB t (L.map en) = lb at hl
  obtain ⟨pp, hpp⟩ : ∃ pp : Nat, (pp : Int) = ix - b - 1 := ⟨(ix - b - 1).toNat, by omega⟩
  have hpt : (ix - b - 1).toNat = pp := by omega
  rw [hpt]
  have Hm := Lib.hid hma
  have Hl := Lib.hid hl
  have Hr := Lib.hid hr
  have Hlen := Lib.hid hlen
  have Hll := Lib.hid hll
  have Hpp := Lib.hid hpp
  have Bb := Lib.hid (Bx.new w #[.int .i64 b, .int .i64 t, .slice A n c] 24 rfl)
  have Ba := Lib.hid ((Below.refl w.heap.size w).alloc (Nat.le_refl _) (.cells #[.int .i64 b, .int .i64 t, .slice A n c] 24))
  have hd1 : decide (ix ≤ b) = false := by simp; omega
  have Hone := Lib.hid (fun x => ecell_one [x])
  clear hma hl hr hw hlen hll hpp hpt hm hbb
  go_enter Tryz.func193, Tryz.ntmps193
  go_wp2_with fail
  refine (Hl.out _ Ba.out).mono ?_
  rintro e w1 ⟨rfl, hb1⟩
  obtain ⟨k0, k1, k2, -⟩ := (Bb.out.below hb1).c3
  have hb2 := Ba.out.trans (hb1.mono Ba.out.size)
  have B2 := Lib.hid hb2
  have Bb1 := Lib.hid (Bb.out.below hb1)
  clear hb1 hb2
  go_wp2_with fail
  refine (Hm.out _ B2.out).mono ?_
  rintro e w2 ⟨rfl, hb3⟩
  clear k0 k1 k2
  have Bb2 := Lib.hid (Bb1.out.below hb3)
  have hb4 := B2.out.trans (hb3.mono B2.out.size)
  have B4 := Lib.hid hb4
  obtain ⟨k0, k1, k2, -⟩ := Bb2.out.c3
  clear hb3 hb4
  go_wp2_with fail
  clear k0 k1 k2
  go_loopg [9, 10] (n + 1) (fun mu s9 s10 wr => ∃ j Q cq iv, mu = n + 1 - j ∧ (j = 0 ∨ pp + j ≤ n) ∧ j ≤ most.toNat ∧ s9 = .slice Q j cq ∧ s10 = .int .i64 iv ∧ iv = b + 1 + pp + j ∧ wr.ownsRow w2.heap.size 104 4 (.slice Q j cq) j (flat ecell ((L.drop pp).take j)) ∧ Below w2.heap.size w2 wr)
  case atStart => exact ⟨0, none, 0, ix, by omega, .inl rfl, Nat.zero_le _, rfl, rfl, by have := Hpp.out; omega, own_nil _ _ _ _ _ rfl, Below.refl _ _⟩
  case round =>
    obtain ⟨j, Q, cq, iv, hmu, hj, hjm, rfl, rfl, hiv, hown, hbe⟩ := hrel
    have Hmu := Lib.hid hmu
    have Hiv := Lib.hid hiv
    have Hown := Lib.hid hown
    have Hbe := Lib.hid hbe
    obtain ⟨k0, k1, k2, -⟩ := (Bb2.out.below hbe).c3
    have hbw := B4.out.trans (hbe.mono B4.out.size)
    have hll := Hll.out
    have hll0 := Hlen.out
    have hfin : ¬ (iv ≤ la ∧ (j : Int) < most) → (L.drop pp).take j = (L.drop pp).take most.toNat := by
      intro hc
      by_cases hlm : (j : Int) < most
      · have hge : n ≤ pp + j := by omega
        rw [List.take_of_length_le (by simp; omega), List.take_of_length_le (by simp; omega)]
      · rw [show most.toNat = j by omega]
    have Hfin := Lib.hid hfin
    clear hfin
    obtain ⟨wq, rfl⟩ : ∃ wq, wq = wr := ⟨_, rfl⟩
    by_cases hil : iv ≤ la
    · by_cases hlm : (j : Int) < most
      · have hkn : pp + j < n := by omega
        obtain ⟨xb, xo, x, hxA, -, -, hx, x0, x1, x2, x3⟩ := er_cells (Hr.out.below hbw) hkn
        subst hxA
        have hkk : iv - b - 1 = ((pp + j : Nat) : Int) := by omega
        obtain ⟨kk, hkkk⟩ : ∃ kk, kk = pp + j := ⟨_, rfl⟩
        rw [← hkkk] at x0 x1 x2 x3 hkk hkn
        have hw1 : IntKind.i64.wrap (iv - b) = iv - b := by rw [IntKind.wrap_i64]; omega
        have hivs : 0 ≤ iv ∧ iv ≤ 1099512627776 := by omega
        obtain ⟨hiv0, hiv1⟩ := hivs
        have hkI : (kk : Int) < n := by omega
        have Htk := Lib.hid (take_one hx)
        have hj6 : j ≤ 1000000 := by omega
        have Hkk := Lib.hid hkkk
        clear hmu hiv hown hbe hbw hll hll0 hx hkkk hj
        go_wp2_with (at_builtin; go_must (refine wpList_append_any _ Tryz.underlying22 rent_elem rfl (by omega) rfl rfl rfl (Hown.out.alloc _) rfl (Rd.lit4 (cs := #[.int .i64 x.a, .int .i64 x.b, .int .i64 x.c, .slice x.A x.n x.m]) _ _ rfl) (Hone.out x) (by omega) (by have := Hbe.out.size; simp; omega) rfl rfl ?_); intro Q2 cq2 w5 hown2 hg2 hat2; have Hown2 := Lib.hid hown2; have hrow := own_lt Hown.out; have hb5 : Below w2.heap.size w2 w5 := (Hbe.out.alloc Hbe.out.size _).grown hg2 (by have := Hbe.out.size; simp; omega) (fun g hg => (hrow g hg).1); have Hb5 := Lib.hid hb5; clear hown2 hg2 hat2 hrow hb5)
        go_roundg (n + 1 - (j + 1))
        case measure => have := Hmu.out; have := Hkk.out; omega
        case rel =>
          refine ⟨j + 1, Q2, cq2, _, rfl, .inr (by have := Hkk.out; omega), by omega, rfl, rfl, by have := Hiv.out; push_cast; omega, ?_, Hb5.out⟩
          have h := Hown2.out
          rw [Htk.out, flat_append, flat_one]
          exact h
      · have hd2 : decide ((j : Int) < most) = false := by simpa using hlm
        have hF := Hfin.out (fun h => hlm h.2)
        have HF := Lib.hid hF
        clear hF hmu hiv hown hbe hbw hll hll0 hj
        go_wp2_with fail
        go_ret
        exact ⟨Q, j, cq, rfl, by rw [← HF.out]; exact (Rd.of_own Hown.out).any, B4.out.trans (Hbe.out.mono B4.out.size)⟩
    · have hd2 : decide (iv ≤ la) = false := by simpa using hil
      have hF := Hfin.out (fun h => hil h.1)
      have HF := Lib.hid hF
      clear hF hmu hiv hown hbe hbw hll hll0 hj
      go_wp2_with fail
      go_ret
      exact ⟨Q, j, cq, rfl, by rw [← HF.out]; exact (Rd.of_own Hown.out).any, B4.out.trans (Hbe.out.mono B4.out.size)⟩
end Go.Proofs.YtmhaahcbmdhinaaGreatDoor
namespace Go.Proofs.YtmhaahcbmdhinaaGreatDoor
open Go.RowKit
set_option maxRecDepth 100000
set_option linter.unusedVariables false
set_option linter.unusedSimpArgs false
theorem rgt_ok {ix : Int} : ∀ {l : List En} {tm : Int} {i : Nat}, rgt ix tm i l = true → ∀ e ∈ l, 1 ≤ e.a ∧ e.a ≤ 1099511627776 ∧ 1 ≤ e.b ∧ e.b ≤ 1099511627776 ∧ 0 ≤ e.c ∧ e.c ≤ 2 ∧ e.d.length ≤ 4096
  | [], _, _, _, e, he => by cases he
  | x :: l, tm, i, h, e, he => by
    have h' : (okE ix tm i x && rgt ix x.b (i + 1) l) = true := h
    rw [Bool.and_eq_true] at h'
    rcases List.mem_cons.1 he with rfl | he
    · have := okE_iff.1 h'.1
      omega
    · exact rgt_ok h'.2 e he
theorem lmay_wt {b t : Int} {L : List Er} (h : lmay b t (L.map en) = true) (hw : Wel L) : ∀ x ∈ L, Wt x := by
  intro x hx
  have h1 := rgt_ok (lmay_iff.1 h).2.2 (en x) (List.mem_map.2 ⟨x, hx, rfl⟩)
  have h2 := (hw x hx).2
  have e1 : (en x).a = x.a := rfl
  have e2 : (en x).b = x.b := rfl
  have e3 : (en x).c = x.c := rfl
  have e4 : (en x).d = x.d := rfl
  rw [e1, e2, e3, e4] at h1
  unfold Wt
  omega
theorem from_any (b t ix most : Int) (A : Option Addr) (n c : Nat) (L : List Er) (w : World) (hr : Rd w T 4 A n (flat ecell L)) (hd : Dat w L) (hs : ∀ x ∈ L, x.n ≤ 1000000) (hw : Wel L) (hn : n ≤ 1000000) (hnc : n ≤ c) (hcm : c ≤ maxLen) :
    Calls Tryz.prog 168 #[.agg #[.int .i64 b, .int .i64 t, .slice A n c], .int .i64 ix, .int .i64 most] w (FromPost w (fromL b t (L.map en) ix most)) := by
  by_cases hc : lmay b t (L.map en) = true ∧ b < ix ∧ ix ≤ lstA b (L.map en) ∧ 1 ≤ most
  · obtain ⟨h1, h2, h3, h4⟩ := hc
    have e : fromL b t (L.map en) ix most = ((L.map en).drop (ix - b - 1).toNat).take most.toNat := by unfold fromL; rw [if_pos ⟨h1, h2⟩]
    rw [e]
    exact from_some b t ix most A n c L w hr hd hs hw hn hnc hcm h1 h2 h3 h4
  · have hq : lmay b t (L.map en) = true ∨ lmay b t (L.map en) = false := by cases lmay b t (L.map en) <;> simp
    have hcase : lmay b t (L.map en) = false ∨ (lmay b t (L.map en) = true ∧ (ix ≤ b ∨ (b < ix ∧ (lstA b (L.map en) < ix ∨ (ix ≤ lstA b (L.map en) ∧ most < 1))))) := by
      rcases hq with hq | hq
      · right
        refine ⟨hq, ?_⟩
        by_cases h1 : ix ≤ b
        · exact .inl h1
        · right
          refine ⟨by omega, ?_⟩
          by_cases h2 : lstA b (L.map en) < ix
          · exact .inl h2
          · refine .inr ⟨by omega, ?_⟩
            by_cases h3 : most < 1
            · exact h3
            · exact absurd ⟨hq, by omega, by omega, by omega⟩ hc
      · exact .inl hq
    refine (from_nil b t ix most A n c L w hr hw hn hcase).mono ?_
    rintro e w' ⟨rfl, hb⟩
    refine ⟨none, 0, 0, [], rfl, Ro.nil _ _, ?_, hb⟩
    rw [fromL_nil (fun h => lmay_last h) ?_]
    · rfl
    · rcases hcase with h | ⟨_, h | ⟨_, h | ⟨_, h⟩⟩⟩
      · exact .inl h
      · exact .inr (.inl h)
      · exact .inr (.inr (.inl h))
      · exact .inr (.inr (.inr h))
def fromLR (b t : Int) (L : List Er) (ix most : Int) : List Er := if lmay b t (L.map en) = true ∧ b < ix then ((L.drop (ix - b - 1).toNat).take most.toNat) else []
theorem fromLR_en (b t : Int) (L : List Er) (ix most : Int) : (fromLR b t L ix most).map en = fromL b t (L.map en) ix most := by
  unfold fromLR fromL
  split
  · rw [List.map_take, List.map_drop]
  · rfl
theorem fromLR_sub (b t : Int) (L : List Er) (ix most : Int) : ∀ x ∈ fromLR b t L ix most, x ∈ L := by
  unfold fromLR
  intro x hx
  split at hx
  · exact List.mem_of_mem_drop (List.mem_of_mem_take hx)
  · cases hx
theorem fromR_any (b t ix most : Int) (A : Option Addr) (n c : Nat) (L : List Er) (w : World) (hr : Rd w T 4 A n (flat ecell L)) (hw : Wel L) (hn : n ≤ 1000000) (hix : ix ≤ 9223372036854775807) :
    Calls Tryz.prog 193 #[.agg #[.int .i64 b, .int .i64 t, .slice A n c], .int .i64 ix, .int .i64 most] w (FromRPost w (fromLR b t L ix most)) := by
  unfold fromLR
  by_cases hc : lmay b t (L.map en) = true ∧ b < ix
  · rw [if_pos hc]
    exact fromR_some b t ix most A n c L w hr hw hn hc.1 hc.2 hix
  · rw [if_neg hc]
    have hq : lmay b t (L.map en) = true ∨ lmay b t (L.map en) = false := by cases lmay b t (L.map en) <;> simp
    refine (fromR_nil b t ix most A n c L w hr hw hn ?_).mono ?_
    · rcases hq with hq | hq
      · right
        refine ⟨hq, ?_⟩
        by_cases h1 : ix ≤ b
        · exact h1
        · exact absurd ⟨hq, by omega⟩ hc
      · exact .inl hq
    · rintro e w' ⟨rfl, hb⟩
      exact ⟨none, 0, 0, rfl, Rd.none_, hb⟩
end Go.Proofs.YtmhaahcbmdhinaaGreatDoor
namespace Go.Proofs.YtmhaahcbmdhinaaGreatDoor
open Go.RowKit
set_option maxRecDepth 100000
set_option linter.unusedVariables false
set_option linter.unusedSimpArgs false
attribute [local go_sem ↓] Go.wp_at_zero Go.wp_at_succ
theorem Mg.far {W : World} {B cB n c : Nat} {b t : Int} {C : Option Addr} {cl : List Er} (h : Mg W B cB b t C n c cl) {p : Addr} (hp : p.block < B) (v : Value) : Mg (W.setCell p v) B cB b t C n c cl := by
  have hle := h.le
  have hg : W.grownBy (W.setCell p v) (some p.block) := ⟨rfl, rfl, rfl, by simp [World.setCell], fun k _ hk => Below.heap_setCell _ _ _ k (fun e => hk (by rw [e]))⟩
  refine ⟨h.bx.far (by omega) v, h.ow.kept hg ?_, h.le, h.nb, fun y hy => ⟨(h.dt y hy).1.setCell (fun q => by have := q.1; omega) v, (h.dt y hy).2⟩⟩
  rcases C with _ | a
  · exact .inl rfl
  · right
    intro e
    have := (own_lt h.ow a.block rfl).1
    have e' : some a.block = some p.block := e
    injection e' with e'
    omega
set_option maxHeartbeats 8000000 in
theorem merge_no (b t ix tm : Int) (A : Option Addr) (n c : Nat) (L : List Er) (M : Option Addr) (nm cm : Nat) (more : List Er) (w : World) (hr : Rd w T 4 A n (flat ecell L)) (hd : Dat w L) (hw : Wel L) (hs : ∀ x ∈ L, x.n ≤ 1000000) (hm : lmay b t (L.map en) = true) (hn : (n : Int) ≤ 4096)
    (gr : Rd w T 4 M nm (flat ecell more)) (gd : Dat w more) (gw : Wel more) (gs : ∀ x ∈ more, x.n ≤ 1000000) (hnm : nm ≤ 1000000) (hno : ix < 0 ∨ rgt ix tm 0 (more.map en) = false ∨ lstA b (L.map en) < ix ∨ ((termL b t (L.map en) ix).1 = 0 ∧ b < ix ∧ (termL b t (L.map en) ix).2 ≠ tm)) :
    Calls Tryz.prog 127 #[.agg #[.int .i64 b, .int .i64 t, .slice A n c], .int .i64 ix, .int .i64 tm, .slice M nm cm] w (MergeBack w b t (L.map en)) := by
  have hr' := hr.lt (by omega)
  obtain ⟨W0, hW0⟩ : ∃ W0, W0 = (w.alloc (.cells #[.int .i64 b, .int .i64 t, .slice A n c] 38)).alloc (.cells #[.int .i64 0, .int .i64 0, .slice none 0 0] 38) := ⟨_, rfl⟩
  have b0 : Bx W0 w.heap.size #[.int .i64 b, .int .i64 t, .slice A n c] := by subst hW0; exact (Bx.new _ _ _ rfl).alloc _
  have F0 : Fr W0 (w.heap.size + 1) 3 W0 := by subst hW0; exact Fr.new (by simp) rfl
  have r0 : Rd W0 (· < w.heap.size) 4 A n (flat ecell L) := by subst hW0; exact ((hr'.mono fun b hb => hb.2).alloc _).alloc _
  have e0 : Rd W0 (· < w.heap.size) 4 M nm (flat ecell more) := by subst hW0; exact (((gr.lt (by omega)).mono fun b hb => hb.2).alloc _).alloc _
  have d0 : ∀ x ∈ L, Rd W0 (· < w.heap.size) 1 x.A x.n (bs x.d) ∧ x.n ≤ x.m ∧ x.m ≤ maxLen := by
    subst hW0
    exact fun x hx => ⟨(((((hd x hx).1.lt (by omega)).mono fun b hb => hb.2).alloc _).alloc _), (hd x hx).2⟩
  have f0 : ∀ x ∈ more, Rd W0 (· < w.heap.size) 1 x.A x.n (bs x.d) ∧ x.n ≤ x.m ∧ x.m ≤ maxLen := by
    subst hW0
    exact fun x hx => ⟨(((((gd x hx).1.lt (by omega)).mono fun b hb => hb.2).alloc _).alloc _), (gd x hx).2⟩
  have hbe : Below w.heap.size w W0 := by subst hW0; exact ((Below.refl _ _).alloc (Nat.le_refl _) _).alloc (by simp) _
  have hz : W0.heap.size = w.heap.size + 2 := by subst hW0; simp
  have u0 : W0.cell? ⟨w.heap.size, 0, none⟩ = some (.int .i64 b) := b0.c 0
  have u1 : W0.cell? ⟨w.heap.size, 1, none⟩ = some (.int .i64 t) := b0.c 1
  have u2 : W0.cell? ⟨w.heap.size, 2, none⟩ = some (.slice A n c) := b0.c 2
  have sof : ∀ W, Fr W0 (w.heap.size + 1) 3 W → (Fr W0 (w.heap.size + 1) 3 W ∧ W.cell? ⟨w.heap.size, 0, none⟩ = some (.int .i64 b) ∧ W.cell? ⟨w.heap.size, 1, none⟩ = some (.int .i64 t) ∧ W.cell? ⟨w.heap.size, 2, none⟩ = some (.slice A n c)) :=
    fun W F2 => ⟨F2, F2.cell (by omega) u0, F2.cell (by omega) u1, F2.cell (by omega) u2⟩
  have hmm := fun W (h : Fr W0 (w.heap.size + 1) 3 W) => may_any b t A n c L W (h.rd r0 (by omega)) hw (by omega)
  have hlt := fun W (h : Fr W0 (w.heap.size + 1) 3 W) => last_any b t A n c L W (h.rd r0 (by omega)) (by omega)
  have htm := fun W (h : Fr W0 (w.heap.size + 1) 3 W) => term_any b t ix A n c L W (h.rd r0 (by omega)) hm (by omega)
  have hrg := fun W (h : Fr W0 (w.heap.size + 1) 3 W) => right_any ix tm M nm cm more W (h.rd e0 (by omega)) gw hnm
  have how : ∀ W, Fr W0 (w.heap.size + 1) 3 W → Calls Tryz.prog 117 #[.slice A n c] W (fun e w' => ∃ A' c' L', e = .returned (.slice A' n c') ∧ Ro w' W.heap.size A' n c' L' ∧ Same L L' ∧ Below W.heap.size W w' ∧ W0.heap.size ≤ W.heap.size) := fun W h => (owns_any A n c L W (h.rd r0 (by omega)) (fun x hx => ⟨(h.rd (d0 x hx).1 (by omega)).any, (d0 x hx).2⟩) hs (by omega)).mono fun e w' ⟨A', c', L', h1, h2, h3, h4⟩ => ⟨A', c', L', h1, h2, h3, h4, h.gr.size⟩
  have hmr : ∀ W, Fr W0 (w.heap.size + 1) 3 W → Rd W T 4 M nm (flat ecell more) := fun W h => (h.rd e0 (by omega)).any
  have hmd : ∀ W, Fr W0 (w.heap.size + 1) 3 W → ∀ x ∈ more, Rd W (· < w.heap.size) 1 x.A x.n (bs x.d) := fun W h x hx => h.rd (f0 x hx).1 (by omega)
  rw [hm] at hmm
  obtain ⟨qr, hqr⟩ : ∃ q, rgt ix tm 0 (more.map en) = q := ⟨_, rfl⟩
  rw [hqr] at hrg hno
  have hlw : ∀ x ∈ L.map en, I64 x.a ∧ I64 x.b ∧ I64 x.c := fun x hx => by obtain ⟨y, hy, rfl⟩ := List.mem_map.1 hx; exact (hw y hy).1
  have hll := hr.flen ecell_len (by omega)
  have hbb := (lmay_iff.1 hm).1
  have hLE : (L.map en).length = n := by rw [List.length_map, hll]
  have hz3 := lmay_last hm
  rw [hLE] at hz3
  generalize hT : termL b t (L.map en) ix = TR at htm hno
  generalize lstA b (L.map en) = z at hlt hno hz3
  generalize lstB t (L.map en) = y at hlt
  have hbk := fun W (h : Fr W0 (w.heap.size + 1) 3 W) (h1 : b < ix) (h2 : ix ≤ b + n) => back_any b t ix A n c L W (h.rd r0 (by omega)) (by omega) (by omega) (by omega) h1 h2
  have Hbk := Lib.hid hbk
  have Hmm := Lib.hid hmm
  have Hlt := Lib.hid hlt
  have Htm := Lib.hid htm
  have Hrg := Lib.hid hrg
  have How := Lib.hid how
  have Hmr := Lib.hid hmr
  have Hmd := Lib.hid hmd
  have HW := Lib.hid hW0
  have Hz := Lib.hid hz
  have Hno := Lib.hid hno
  have Hz3 := Lib.hid hz3
  clear hW0 b0 u0 u1 u2 hr hr' hz r0 d0 e0 f0 hmm hlt htm hrg how hmr hmd hd hs hw hm gr gd gw gs hno hT hlw hll hLE hz3 hqr hbk
  go_enter Tryz.func127, Tryz.ntmps127
  go_wp2_with fail
  rw [← HW.out]
  refine (Hmm.out _ F0).mono ?_
  rintro e w1 ⟨rfl, hb1⟩
  have F1 := F0.below hb1
  have s1 := sof _ F1
  go_split_ands
  have hw1 : W0.heap.size ≤ w1.heap.size := F1.gr.size
  go_upto_region 3 with (fail)
  go_cut [11] (fun s11 W => ∃ (cB : Nat) (C : Option Addr) (cC : Nat) (cl : List Er), s11 = .pointer (some ⟨cB, 0, none⟩) ∧ Mg W (w.heap.size + 2) cB b t C n cC cl ∧ cl.map en = L.map en ∧ Fr W0 (w.heap.size + 1) 3 W)
  case first =>
    go_region_held3 (fun W => Fr W0 (w.heap.size + 1) 3 W ∧ W.cell? ⟨w.heap.size, 0, none⟩ = some (.int .i64 b) ∧ W.cell? ⟨w.heap.size, 1, none⟩ = some (.int .i64 t) ∧ W.cell? ⟨w.heap.size, 2, none⟩ = some (.slice A n c)) ((refine sof _ ?_; first | exact F1.drew | (go_split_ands; exact Fr.below (by assumption) (by assumption)) | (go_split_ands; exact Fr.alloc (by assumption) _) | (go_split_ands; exact Fr.far (Fr.far (Fr.far (by assumption) hw1 _) hw1 _) hw1 _))) (first
      | (go_at_call 117; refine (How.out _ (by go_split_ands; assumption)).mono ?_; rintro e w4 ⟨A4, c4, L4, rfl, ro4, sm4, hb4, z4⟩; have F4 : Fr W0 (w.heap.size + 1) 3 w4 := Fr.below (by go_split_ands; assumption) hb4; try (have X8 := (Bx.new w1 #[.int .i64 0, .int .i64 0, .slice none 0 0] 38 rfl).drew.below hb4; obtain ⟨x0, x1, x2, y0, y1, y2⟩ := X8.c3)))
    all_goals
      go_wp2_with fail
      go_meet
      case rel =>
        have hz := Hz.out
        have hz1 := hb1.size
        have hz4 := hb4.size
        first
          | (refine ⟨w4.heap.size, A4, c4, L4, rfl, Mg.make (Bx0 := w1.drew.heap.size) (ro4.alloc _) (by show _ ≤ w1.heap.size; omega) (Bx.new w4 _ _ rfl) (by simp at hz4; omega) (fun e => by have := own_lt ro4.ow _ e; omega) (fun y hy => (((ro4.dt y hy).1.lt (by omega)).alloc _).mono fun q hq => ⟨by have := hq.1.1; simp at this; omega, by have := hq.2; omega, hq.1.2⟩), sm4, F4.alloc _⟩)
          | (refine ⟨w1.heap.size, A4, c4, L4, rfl, Mg.make (Bx0 := w1.heap.size + 1) (((Ro.far (B := w1.heap.size + 1) (by simpa using ro4) (p := ⟨w1.heap.size, 0, none⟩) (by simp) _).far (p := ⟨w1.heap.size, 1, none⟩) (by simp) _).far (p := ⟨w1.heap.size, 2, none⟩) (by simp) _) (by omega) (by simpa using ((X8.set 0 (.int .i64 b)).set 1 (.int .i64 t)).set 2 (.slice A4 n c4)) (by omega) (fun e => by have := own_lt ro4.ow _ e; simp at this; omega) (fun y hy => ?_), sm4, Fr.far (Fr.far (Fr.far F4 hw1 _) hw1 _) hw1 _⟩
             have hne : ¬ w1.heap.size + 1 ≤ w1.heap.size := by omega
             have h6 : Rd w4 (fun q => w1.heap.size + 1 ≤ q ∧ A4.map (·.block) ≠ some q) 1 y.A y.n (bs y.d) := (ro4.dt y hy).1.mono fun q hq => ⟨by have := hq.1; simp at this; omega, hq.2⟩
             exact (((h6.setCell (p := ⟨w1.heap.size, 0, none⟩) (fun q => hne q.1) _).setCell (p := ⟨w1.heap.size, 1, none⟩) (fun q => hne q.1) _).setCell (p := ⟨w1.heap.size, 2, none⟩) (fun q => hne q.1) _).mono fun q hq => ⟨by omega, by omega, hq.2⟩)
  case rest =>
    obtain ⟨cB, C, cC, cl, rfl, mg, hsame, F3⟩ := hcut
    have s3 := sof _ F3
    have Mg0 := Lib.hid mg
    have Sm := Lib.hid hsame
    clear mg hsame
    go_split_ands
    by_cases c1 : ix < 0
    · have c1d : decide (ix < 0) = true := decide_eq_true c1
      obtain ⟨z0, z1, z2, z3, z4, z5⟩ := (Mg0.out).bx.c3
      have q0 : wc.cell? ⟨w.heap.size + 1, 0, none⟩ = some (peek wc (w.heap.size + 1) 0) := (F3).pk (by omega)
      have g0 : wc.frozen? ⟨w.heap.size + 1, 0, none⟩ = false := (F3).fz _
      have q1 : wc.cell? ⟨w.heap.size + 1, 1, none⟩ = some (peek wc (w.heap.size + 1) 1) := (F3).pk (by omega)
      have g1 : wc.frozen? ⟨w.heap.size + 1, 1, none⟩ = false := (F3).fz _
      have q2 : wc.cell? ⟨w.heap.size + 1, 2, none⟩ = some (peek wc (w.heap.size + 1) 2) := (F3).pk (by omega)
      have g2 : wc.frozen? ⟨w.heap.size + 1, 2, none⟩ = false := (F3).fz _
      have hlecB := (Mg0.out).le
      have nR1 : ¬ w.heap.size + 1 = cB := by omega
      have nR2 : ¬ cB = w.heap.size + 1 := by omega
      have F9 := Lib.hid (Fr.set (Fr.set (Fr.set (F3) 0 (.int .i64 b)) 1 (.int .i64 t)) 2 (.slice C n cC))
      have M9 := Lib.hid (Mg0.out)
      go_wp2_with fail
      refine bodyPost_ret (by simp [results, Tryz.results127, go_sem, q0, q1, q2]; rfl) rfl ?_
      have mF := ((((M9.out).far (p := ⟨w.heap.size + 1, 0, none⟩) (by show w.heap.size + 1 < _; omega) (.int .i64 b)).far (p := ⟨w.heap.size + 1, 1, none⟩) (by show w.heap.size + 1 < _; omega) (.int .i64 t)).far (p := ⟨w.heap.size + 1, 2, none⟩) (by show w.heap.size + 1 < _; omega) (.slice C n cC))
      exact ⟨C, n, cC, cl, _, rfl, (Rd.of_own mF.ow).mono (fun q hq => by omega), (fun y hy => ⟨(mF.dt y hy).1.mono (fun q hq => by have := hq.1; omega), (mF.dt y hy).2⟩), Sm.out, (own_cap mF.ow).1, hbe.trans ((F9.out).to_below (B := w.heap.size) (by omega))⟩
    have c1d : decide (ix < 0) = false := decide_eq_false c1
    go_wp2_with fail
    refine (Hrg.out _ F3).mono ?_
    rintro e w5 ⟨rfl, hb5⟩
    have F5 := F3.below hb5
    have s5 := sof _ F5
    replace Mg0 := Lib.hid (Mg0.out.below hb5)
    go_split_ands
    clear F3
    cases qr
    · obtain ⟨z0, z1, z2, z3, z4, z5⟩ := (Mg0.out).bx.c3
      have q0 : w5.cell? ⟨w.heap.size + 1, 0, none⟩ = some (peek w5 (w.heap.size + 1) 0) := (F5).pk (by omega)
      have g0 : w5.frozen? ⟨w.heap.size + 1, 0, none⟩ = false := (F5).fz _
      have q1 : w5.cell? ⟨w.heap.size + 1, 1, none⟩ = some (peek w5 (w.heap.size + 1) 1) := (F5).pk (by omega)
      have g1 : w5.frozen? ⟨w.heap.size + 1, 1, none⟩ = false := (F5).fz _
      have q2 : w5.cell? ⟨w.heap.size + 1, 2, none⟩ = some (peek w5 (w.heap.size + 1) 2) := (F5).pk (by omega)
      have g2 : w5.frozen? ⟨w.heap.size + 1, 2, none⟩ = false := (F5).fz _
      have hlecB := (Mg0.out).le
      have nR1 : ¬ w.heap.size + 1 = cB := by omega
      have nR2 : ¬ cB = w.heap.size + 1 := by omega
      have F9 := Lib.hid (Fr.set (Fr.set (Fr.set (F5) 0 (.int .i64 b)) 1 (.int .i64 t)) 2 (.slice C n cC))
      have M9 := Lib.hid (Mg0.out)
      go_wp2_with fail
      refine bodyPost_ret (by simp [results, Tryz.results127, go_sem, q0, q1, q2]; rfl) rfl ?_
      have mF := ((((M9.out).far (p := ⟨w.heap.size + 1, 0, none⟩) (by show w.heap.size + 1 < _; omega) (.int .i64 b)).far (p := ⟨w.heap.size + 1, 1, none⟩) (by show w.heap.size + 1 < _; omega) (.int .i64 t)).far (p := ⟨w.heap.size + 1, 2, none⟩) (by show w.heap.size + 1 < _; omega) (.slice C n cC))
      exact ⟨C, n, cC, cl, _, rfl, (Rd.of_own mF.ow).mono (fun q hq => by omega), (fun y hy => ⟨(mF.dt y hy).1.mono (fun q hq => by have := hq.1; omega), (mF.dt y hy).2⟩), Sm.out, (own_cap mF.ow).1, hbe.trans ((F9.out).to_below (B := w.heap.size) (by omega))⟩
    go_wp2_with fail
    refine (Hlt.out _ F5).mono ?_
    rintro e w6 ⟨rfl, hb6⟩
    have F6 := F5.below hb6
    have s6 := sof _ F6
    replace Mg0 := Lib.hid (Mg0.out.below hb6)
    go_split_ands
    clear F5
    by_cases c2 : z < ix
    · have c2d : decide (z < ix) = true := decide_eq_true c2
      obtain ⟨z0, z1, z2, z3, z4, z5⟩ := (Mg0.out).bx.c3
      have q0 : w6.cell? ⟨w.heap.size + 1, 0, none⟩ = some (peek w6 (w.heap.size + 1) 0) := (F6).pk (by omega)
      have g0 : w6.frozen? ⟨w.heap.size + 1, 0, none⟩ = false := (F6).fz _
      have q1 : w6.cell? ⟨w.heap.size + 1, 1, none⟩ = some (peek w6 (w.heap.size + 1) 1) := (F6).pk (by omega)
      have g1 : w6.frozen? ⟨w.heap.size + 1, 1, none⟩ = false := (F6).fz _
      have q2 : w6.cell? ⟨w.heap.size + 1, 2, none⟩ = some (peek w6 (w.heap.size + 1) 2) := (F6).pk (by omega)
      have g2 : w6.frozen? ⟨w.heap.size + 1, 2, none⟩ = false := (F6).fz _
      have hlecB := (Mg0.out).le
      have nR1 : ¬ w.heap.size + 1 = cB := by omega
      have nR2 : ¬ cB = w.heap.size + 1 := by omega
      have F9 := Lib.hid (Fr.set (Fr.set (Fr.set (F6) 0 (.int .i64 b)) 1 (.int .i64 t)) 2 (.slice C n cC))
      have M9 := Lib.hid (Mg0.out)
      go_wp2_with fail
      refine bodyPost_ret (by simp [results, Tryz.results127, go_sem, q0, q1, q2]; rfl) rfl ?_
      have mF := ((((M9.out).far (p := ⟨w.heap.size + 1, 0, none⟩) (by show w.heap.size + 1 < _; omega) (.int .i64 b)).far (p := ⟨w.heap.size + 1, 1, none⟩) (by show w.heap.size + 1 < _; omega) (.int .i64 t)).far (p := ⟨w.heap.size + 1, 2, none⟩) (by show w.heap.size + 1 < _; omega) (.slice C n cC))
      exact ⟨C, n, cC, cl, _, rfl, (Rd.of_own mF.ow).mono (fun q hq => by omega), (fun y hy => ⟨(mF.dt y hy).1.mono (fun q hq => by have := hq.1; omega), (mF.dt y hy).2⟩), Sm.out, (own_cap mF.ow).1, hbe.trans ((F9.out).to_below (B := w.heap.size) (by omega))⟩
    have c2d : decide (z < ix) = false := decide_eq_false c2
    have hcf : TR.1 = 0 ∧ b < ix ∧ TR.2 ≠ tm := by
      rcases Hno.out with h | h | h | h
      · omega
      · cases h
      · omega
      · exact h
    obtain ⟨f1, f2, f3⟩ := hcf
    have f2d : decide (b < ix) = true := decide_eq_true f2
    have f3d : (TR.2 != tm) = true := by simpa using f3
    obtain ⟨tr1, tr2⟩ := TR
    dsimp only at f1
    subst f1
    go_wp2_with fail
    refine (Htm.out _ F6).mono ?_
    rintro e w7 ⟨rfl, hb7⟩
    have F7 := F6.below hb7
    have s7 := sof _ F7
    replace Mg0 := Lib.hid (Mg0.out.below hb7)
    go_split_ands
    clear F6
    rw [show errC 0 = .nilIface from rfl]
    go_upto_region 11 with (fail)
    have hS0 : Fr W0 (w.heap.size + 1) 3 w7.drew ∧ Mg w7.drew (w.heap.size + 2) cB b t C n cC cl := ⟨F7.drew, Mg0.out.below (Below.refl _ _).drew⟩
    have FS := Lib.hid (fun W (h : Fr W0 (w.heap.size + 1) 3 W ∧ Mg W (w.heap.size + 2) cB b t C n cC cl) => And.intro (sof W h.1).2 h.2.bx.c3)
    have hz3 := Hz3.out
    have hzz := Lib.hid (show ix ≤ b + n by omega)
    refine wp_region_S 6 (fun W => Fr W0 (w.heap.size + 1) 3 W ∧ Mg W (w.heap.size + 2) cB b t C n cC cl) (.take 0 (.take 1 (.take 2 (.one 3 (.one 4 (.take 5 (.one 6 (.nil)))))))) (by kernel_rfl) hS0 (fun _ _ _ _ h => h) (fun hS => ?_)
    repeat (first
      | (refine wpS_take (v := ?_) rfl rfl (by rfl) ?_ ?_; rotate_left; (intro W hW; have hf := FS.out W hW; go_split_ands; go_simp; try with_reducible rfl); try simp only [Act.put, List.setIfInBounds_toArray, List.set_cons_zero, List.set_cons_succ])
      | (refine wpS_skip rfl rfl (by rfl) ?_; try simp only [Act.put, List.setIfInBounds_toArray, List.set_cons_zero, List.set_cons_succ]))
    refine wpS_one rfl (by rfl) (fun K hK => ?_)
    go_simp
    go_at_call 181
    refine (Hbk.out _ hS.1 f2 hzz.out).mono ?_
    rintro e wq ⟨k9, rfl, hb9⟩
    have F4 : Fr W0 (w.heap.size + 1) 3 wq := hS.1.below hb9
    have M4 := hS.2.below hb9
    clear hS hS0 hb9
    refine hK (fun W => Fr W0 (w.heap.size + 1) 3 W ∧ Mg W (w.heap.size + 2) cB b t C n cC cl) _ _ (fun W h => h) ⟨F4, M4⟩ ?_
    clear hK K
    try simp only [Act.put, List.setIfInBounds_toArray, List.set_cons_zero, List.set_cons_succ]
    repeat (first
      | (refine wpS_take (v := ?_) rfl rfl (by rfl) ?_ ?_; rotate_left; (intro W hW; have hf := FS.out W hW; go_split_ands; go_simp; try with_reducible rfl); try simp only [Act.put, List.setIfInBounds_toArray, List.set_cons_zero, List.set_cons_succ])
      | (refine wpS_skip rfl rfl (by rfl) ?_; try simp only [Act.put, List.setIfInBounds_toArray, List.set_cons_zero, List.set_cons_succ]))
    have q0 : wq.cell? ⟨w.heap.size + 1, 0, none⟩ = some (peek wq (w.heap.size + 1) 0) := F4.pk (by omega)
    have g0 : wq.frozen? ⟨w.heap.size + 1, 0, none⟩ = false := F4.fz _
    have q1 : wq.cell? ⟨w.heap.size + 1, 1, none⟩ = some (peek wq (w.heap.size + 1) 1) := F4.pk (by omega)
    have g1 : wq.frozen? ⟨w.heap.size + 1, 1, none⟩ = false := F4.fz _
    have q2 : wq.cell? ⟨w.heap.size + 1, 2, none⟩ = some (peek wq (w.heap.size + 1) 2) := F4.pk (by omega)
    have g2 : wq.frozen? ⟨w.heap.size + 1, 2, none⟩ = false := F4.fz _
    refine wpS_one rfl (by rfl) (fun K hK => ?_)
    go_simp
    have F5 := Fr.set (Fr.set (Fr.set F4 0 (.int .i64 b)) 1 (.int .i64 t)) 2 (.slice C n cC)
    have M5 := ((M4.far (p := ⟨w.heap.size + 1, 0, none⟩) (by show w.heap.size + 1 < _; omega) (.int .i64 b)).far (p := ⟨w.heap.size + 1, 1, none⟩) (by show w.heap.size + 1 < _; omega) (.int .i64 t)).far (p := ⟨w.heap.size + 1, 2, none⟩) (by show w.heap.size + 1 < _; omega) (.slice C n cC)
    refine hK (fun W => Fr W0 (w.heap.size + 1) 3 W ∧ Mg W (w.heap.size + 2) cB b t C n cC cl) _ _ (fun W h => h) ⟨F5, M5⟩ ?_
    clear hK K
    try simp only [Act.put, List.setIfInBounds_toArray, List.set_cons_zero, List.set_cons_succ]
    repeat (first
      | (refine wpS_take (v := ?_) rfl rfl (by rfl) ?_ ?_; rotate_left; (intro W hW; have hf := FS.out W hW; go_split_ands; go_simp; try with_reducible rfl); try simp only [Act.put, List.setIfInBounds_toArray, List.set_cons_zero, List.set_cons_succ])
      | (refine wpS_skip rfl rfl (by rfl) ?_; try simp only [Act.put, List.setIfInBounds_toArray, List.set_cons_zero, List.set_cons_succ]))
    refine wpS_last rfl (by rfl) (fun K hK => ?_)
    go_simp
    refine hK _ _ ?_
    clear hK K
    try simp only [Act.put, List.setIfInBounds_toArray, List.set_cons_zero, List.set_cons_succ]
    refine wpS_nil ?_
    go_wp2_with fail
    refine bodyPost_ret (by simp [results, Tryz.results127, go_sem, q0, q1, q2]; rfl) rfl ?_
    exact ⟨C, n, cC, cl, _, rfl, (Rd.of_own M5.ow).mono (fun q hq => by omega), (fun y hy => ⟨(M5.dt y hy).1.mono (fun q hq => by have := hq.1; omega), (M5.dt y hy).2⟩), Sm.out, (own_cap M5.ow).1, hbe.trans (F5.to_below (B := w.heap.size) (by omega))⟩
theorem merge_zero (b t ix tm : Int) (A : Option Addr) (n c : Nat) (L : List Er) (M : Option Addr) (nm cm : Nat) (w : World) (hr : Rd w T 4 A n (flat ecell L)) (hw : Wel L) (hm : lmay b t (L.map en) = false) (hn : n ≤ 1000000) :
    Calls Tryz.prog 127 #[.agg #[.int .i64 b, .int .i64 t, .slice A n c], .int .i64 ix, .int .i64 tm, .slice M nm cm] w (fun e w' => e = .returned (.tuple #[.agg #[.int .i64 0, .int .i64 0, .slice none 0 0], .int .i64 0, .bool false]) ∧ Below w.heap.size w w') := by
  obtain ⟨W0, hW0⟩ : ∃ W0, W0 = (w.alloc (.cells #[.int .i64 b, .int .i64 t, .slice A n c] 38)).alloc (.cells #[.int .i64 0, .int .i64 0, .slice none 0 0] 38) := ⟨_, rfl⟩
  have F0 : Fr W0 (w.heap.size + 1) 3 W0 := by subst hW0; exact Fr.new (by simp) rfl
  have hbe : Below w.heap.size w W0 := by subst hW0; exact ((Below.refl _ _).alloc (Nat.le_refl _) _).alloc (by simp) _
  have hmm := may_any b t A n c L W0 (hr.below hbe) hw hn
  rw [hm] at hmm
  have Hmm := Lib.hid hmm
  have HW := Lib.hid hW0
  clear hW0 hr hw hm hmm
  go_enter Tryz.func127, Tryz.ntmps127
  go_wp2_with fail
  rw [← HW.out]
  refine Hmm.out.mono ?_
  rintro e w2 ⟨rfl, hb2⟩
  have F2 := F0.below hb2
  have q0 : w2.cell? ⟨w.heap.size + 1, 0, none⟩ = some (peek w2 (w.heap.size + 1) 0) := F2.pk (by omega)
  have q1 : w2.cell? ⟨w.heap.size + 1, 1, none⟩ = some (peek w2 (w.heap.size + 1) 1) := F2.pk (by omega)
  have q2 : w2.cell? ⟨w.heap.size + 1, 2, none⟩ = some (peek w2 (w.heap.size + 1) 2) := F2.pk (by omega)
  have g0 : w2.frozen? ⟨w.heap.size + 1, 0, none⟩ = false := F2.fz _
  have g1 : w2.frozen? ⟨w.heap.size + 1, 1, none⟩ = false := F2.fz _
  have g2 : w2.frozen? ⟨w.heap.size + 1, 2, none⟩ = false := F2.fz _
  go_wp2_with fail
  have FF := Fr.set (Fr.set (Fr.set F2 0 (.int .i64 0)) 1 (.int .i64 0)) 2 (.slice none 0 0)
  refine bodyPost_ret (by simp [results, Tryz.results127, go_sem, q0, q1, q2]; rfl) rfl ?_
  exact ⟨rfl, hbe.trans (FF.to_below (B := w.heap.size) (by omega))⟩
end Go.Proofs.YtmhaahcbmdhinaaGreatDoor
namespace Go.Proofs.YtmhaahcbmdhinaaGreatDoor
set_option linter.unusedVariables false
set_option linter.unusedSimpArgs false
theorem mcut_pre {b : Int} {c : List En} {e : En} {p : Nat} (hp : p ≤ (e.a - b - 1).toNat) : (mcut b c e).take p = c.take p := by
  unfold mcut
  split
  · rw [List.take_take, Nat.min_eq_left hp]
  · rfl
theorem mcut_len {b : Int} {c : List En} {e : En} (h : (e.a - b - 1).toNat ≤ c.length) : (e.a - b - 1).toNat ≤ (mcut b c e).length := by
  unfold mcut
  split
  · rename_i h1; rw [List.length_take]; omega
  · exact h
theorem mcut_at {b : Int} {c : List En} {e : En} (h : (e.a - b - 1).toNat < (mcut b c e).length) : mcut b c e = c ∧ (c[(e.a - b - 1).toNat]?.map (·.b)) = some e.b := by
  unfold mcut at h ⊢
  split at h
  · rw [List.length_take] at h; omega
  · rename_i hc
    rw [if_neg hc]
    refine ⟨rfl, ?_⟩
    by_cases he : (c[(e.a - b - 1).toNat]?.map (·.b)) = some e.b
    · exact he
    · exact absurd ⟨h, he⟩ hc
theorem mcut_same {b : Int} {c : List En} {e : En} (h : (c[(e.a - b - 1).toNat]?.map (·.b)) = some e.b) : mcut b c e = c := by
  unfold mcut
  rw [if_neg (fun hc => hc.2 h)]
theorem mcut_end {b : Int} {c : List En} {e : En} (h : (e.a - b - 1).toNat = c.length) : mcut b c e = c := by
  unfold mcut
  rw [if_neg (by rintro ⟨h', _⟩; omega)]
/-- Entries with indexes one behind the other, from a on. -/
def Cont (a : Int) : List En → Prop
  | [] => True
  | e :: r => e.a = a ∧ Cont (a + 1) r
theorem Cont.ge {a : Int} {l : List En} (h : Cont a l) : ∀ e ∈ l, a ≤ e.a := by
  induction l generalizing a with
  | nil => intro e he; cases he
  | cons x l ih =>
    intro e he
    rcases List.mem_cons.1 he with rfl | he
    · exact Int.le_of_eq h.1.symm
    · have := ih h.2 e he
      omega
theorem cont_of_rgt {ix : Int} {l : List En} : ∀ {tm : Int} {k : Nat}, rgt ix tm k l = true → Cont (ix + k + 1) l := by
  induction l with
  | nil => intro tm k h; trivial
  | cons e l ih =>
    intro tm k h
    rw [rgt, Bool.and_eq_true, okE_iff] at h
    refine ⟨by have := h.1.2.1; omega, ?_⟩
    have := ih h.2
    have e1 : ix + ((k + 1 : Nat) : Int) + 1 = ix + k + 1 + 1 := by push_cast; omega
    rwa [e1] at this
theorem mloop_law {b : Int} : ∀ (es : List En) (c : List En) (s a : Int), Cont a es → (a - b - 1).toNat ≤ c.length → s < max a (b + 1) →
    (mloop b (c, s) es).1.take (a - b - 1).toNat = c.take (a - b - 1).toNat ∧ (a - b - 1).toNat ≤ (mloop b (c, s) es).1.length ∧ s ≤ (mloop b (c, s) es).2 ∧
    (∀ e ∈ es, b < e.a → e.a ≤ (mloop b (c, s) es).2 → ((mloop b (c, s) es).1[(e.a - b - 1).toNat]?.map (·.b)) = some e.b) ∧
    mloop b ((mloop b (c, s) es).1, s) es = mloop b (c, s) es := by
  intro es
  induction es with
  | nil => intro c s a _ hc hs; exact ⟨rfl, hc, Int.le_refl _, fun e he => by (cases he), rfl⟩
  | cons e r ih =>
    intro c s a hct hc hs
    obtain ⟨rfl, hr⟩ := hct
    by_cases h1 : e.a ≤ b
    · have hp : (e.a - b - 1).toNat = 0 := by omega
      have hp' : (e.a + 1 - b - 1).toNat = 0 := by omega
      have hm : ∀ c s, mloop b (c, s) (e :: r) = mloop b (c, s) r := fun c s => by rw [mloop, if_pos h1]
      obtain ⟨i1, i2, i3, i4, i5⟩ := ih c s (e.a + 1) hr (by omega) (by omega)
      rw [hm, hm, hp]
      refine ⟨by simp, by omega, i3, fun x hx hb hl => ?_, i5⟩
      rcases List.mem_cons.1 hx with rfl | hx
      · omega
      · exact i4 x hx hb hl
    · have hq : ∃ q : Nat, e.a - b - 1 = (q : Int) := ⟨(e.a - b - 1).toNat, by omega⟩
      obtain ⟨q, hq⟩ := hq
      have hqn : (e.a - b - 1).toNat = q := by omega
      have hqn' : (e.a + 1 - b - 1).toNat = q + 1 := by omega
      rw [hqn] at hc
      have hm : ∀ c s, mloop b (c, s) (e :: r) = if q = (mcut b c e).length then (if 4096 ≤ (mcut b c e).length then (mcut b c e, s) else mloop b (mcut b c e ++ [e], e.a) r) else mloop b (mcut b c e, e.a) r := fun c s => by rw [mloop, if_neg h1, hqn]
      have hcl := mcut_len (b := b) (c := c) (e := e) (by rw [hqn]; exact hc)
      rw [hqn] at hcl
      have hpre := mcut_pre (b := b) (c := c) (e := e) (p := q) (by rw [hqn]; exact Nat.le_refl _)
      rw [hqn]
      by_cases h2 : q = (mcut b c e).length
      · by_cases h3 : 4096 ≤ (mcut b c e).length
        · have hR : mloop b (c, s) (e :: r) = (mcut b c e, s) := by rw [hm, if_pos h2, if_pos h3]
          rw [hR]
          have hge : ∀ x ∈ e :: r, e.a ≤ x.a := Cont.ge (a := e.a) ⟨rfl, hr⟩
          have hcc : mcut b (mcut b c e) e = mcut b c e := mcut_end (by rw [hqn]; exact h2)
          refine ⟨hpre, hcl, Int.le_refl _, fun x hx hb hl => ?_, ?_⟩
          · have := hge x hx
            dsimp only at hl
            omega
          · show mloop b (mcut b c e, s) (e :: r) = _
            rw [hm, hcc, if_pos h2, if_pos h3]
        · have hR : mloop b (c, s) (e :: r) = mloop b (mcut b c e ++ [e], e.a) r := by rw [hm, if_pos h2, if_neg h3]
          obtain ⟨i1, i2, i3, i4, i5⟩ := ih (mcut b c e ++ [e]) e.a (e.a + 1) hr (by rw [hqn']; simp; omega) (by omega)
          rw [hqn'] at i1 i2
          rw [hR]
          generalize mloop b (mcut b c e ++ [e], e.a) r = R at i1 i2 i3 i4 i5 ⊢
          have hat : (R.1[q]?.map (·.b)) = some e.b := by
            have := congrArg (fun l => l[q]?) i1
            simp only [List.getElem?_take] at this
            rw [if_pos (by omega)] at this
            rw [this, if_pos (by omega), List.getElem?_append_right (by omega), h2]
            simp
          refine ⟨?_, by omega, by omega, fun x hx hb hl => ?_, ?_⟩
          · have := congrArg (List.take q) i1
            rw [List.take_take, List.take_take, Nat.min_eq_left (by omega)] at this
            rw [this, List.take_append_of_le_length (by omega), hpre]
          · rcases List.mem_cons.1 hx with rfl | hx
            · rw [hqn]; exact hat
            · exact i4 x hx hb hl
          · have hcc : mcut b R.1 e = R.1 := mcut_same (by rw [hqn]; exact hat)
            rw [hm, hcc, if_neg (by omega)]
            exact i5
      · have h4 := mcut_at (b := b) (c := c) (e := e) (by rw [hqn]; omega)
        rw [hqn] at h4
        have hR : mloop b (c, s) (e :: r) = mloop b (c, e.a) r := by rw [hm, if_neg h2, h4.1]
        rw [h4.1] at hcl h2
        obtain ⟨i1, i2, i3, i4, i5⟩ := ih c e.a (e.a + 1) hr (by rw [hqn']; omega) (by omega)
        rw [hqn'] at i1 i2
        rw [hR]
        generalize mloop b (c, e.a) r = R at i1 i2 i3 i4 i5 ⊢
        have hat : (R.1[q]?.map (·.b)) = some e.b := by
          have := congrArg (fun l => l[q]?) i1
          simp only [List.getElem?_take] at this
          rw [if_pos (by omega), if_pos (by omega)] at this
          rw [this]
          exact h4.2
        refine ⟨?_, by omega, by omega, fun x hx hb hl => ?_, ?_⟩
        · have := congrArg (List.take q) i1
          rw [List.take_take, List.take_take, Nat.min_eq_left (by omega)] at this
          exact this
        · rcases List.mem_cons.1 hx with rfl | hx
          · rw [hqn]; exact hat
          · exact i4 x hx hb hl
        · have hcc : mcut b R.1 e = R.1 := mcut_same (by rw [hqn]; exact hat)
          rw [hm, hcc, if_neg (by omega)]
          exact i5
/-- Whether entries can be merged. -/
def mergeB (b t : Int) (l : List En) (ix tm : Int) (more : List En) : Prop :=
  lmay b t l = true ∧ 0 ≤ ix ∧ rgt ix tm 0 more = true ∧ ix ≤ lstA b l ∧ ¬ ((termL b t l ix).1 = 0 ∧ b < ix ∧ (termL b t l ix).2 ≠ tm) ∧ lmay b t (mloop b (l, max ix b) more).1 = true
def mergeR (b : Int) (l : List En) (ix : Int) (more : List En) : List En × Int := mloop b (l, max ix b) more
theorem merge_laws {b t ix tm : Int} {l more : List En} (h : mergeB b t l ix tm more) :
    mergeB b t (mergeR b l ix more).1 ix tm more ∧ mergeR b (mergeR b l ix more).1 ix more = mergeR b l ix more ∧
    ∀ e ∈ more, b < e.a → e.a ≤ (mergeR b l ix more).2 → termL b t (mergeR b l ix more).1 e.a = (0, e.b) := by
  obtain ⟨h1, h2, h3, h4, h5, h6⟩ := h
  have hl := lmay_last h1
  have hb := (lmay_iff.1 h1).1
  have hct := cont_of_rgt h3
  have e0 : ix + ((0 : Nat) : Int) + 1 = ix + 1 := by simp
  rw [e0] at hct
  have hp : (ix + 1 - b - 1).toNat = (ix - b).toNat := by congr 1; omega
  obtain ⟨i1, i2, i3, i4, i5⟩ := mloop_law (b := b) more l (max ix b) (ix + 1) hct (by omega) (by omega)
  rw [hp] at i1 i2
  unfold mergeR
  have hl2 := lmay_last h6
  refine ⟨⟨h6, h2, h3, by omega, ?_, by rw [i5]; exact h6⟩, i5, fun e he hbe hle => ?_⟩
  · rintro ⟨k1, k2, k3⟩
    refine h5 ⟨?_, k2, ?_⟩
    · unfold termL at k1 ⊢
      rw [hl2] at k1
      rw [hl, if_neg (by omega), if_neg (by omega), if_neg (by omega)]
    · intro k4
      apply k3
      rw [← k4]
      unfold termL
      rw [hl2, hl, if_neg (by omega), if_neg (by omega), if_neg (by omega), if_neg (by omega), if_neg (by omega), if_neg (by omega)]
      have := congrArg (fun l => l[(ix - b - 1).toNat]?) i1
      simp only [List.getElem?_take] at this
      rw [if_pos (by omega), if_pos (by omega)] at this
      rw [this]
  · have h7 := i4 e he hbe hle
    have h8 : (e.a - b - 1).toNat < (mloop b (l, max ix b) more).1.length := by
      cases hx : (mloop b (l, max ix b) more).1[(e.a - b - 1).toNat]? with
      | none => rw [hx] at h7; cases h7
      | some x => exact (List.getElem?_eq_some_iff.1 hx).1
    unfold termL
    rw [hl2, if_neg (by omega), if_neg (by omega), if_neg (by omega), h7]
    rfl
end Go.Proofs.YtmhaahcbmdhinaaGreatDoor
namespace Go.Proofs.YtmhaahcbmdhinaaGreatDoor
open Go.RowKit
set_option maxRecDepth 100000
set_option linter.unusedVariables false
set_option linter.unusedSimpArgs false
def MgCase (b t : Int) (l : List En) (yes : Prop) (R : List En × Int) (b' t' : Int) (l' : List En) (k : Int) (o : Bool) : Prop :=
  (o = true ∧ yes ∧ b' = b ∧ t' = t ∧ l' = R.1 ∧ k = R.2) ∨ (o = false ∧ ¬ yes ∧ lmay b t l = true ∧ b' = b ∧ t' = t ∧ l' = l) ∨ (o = false ∧ ¬ yes ∧ lmay b t l = false ∧ b' = 0 ∧ t' = 0 ∧ l' = [])
def MergePost (W : World) (b t : Int) (l : List En) (yes : Prop) (R : List En × Int) (e : Ending) (w' : World) : Prop :=
  ∃ b' t' A n c L' k o, e = .returned (.tuple #[.agg #[.int .i64 b', .int .i64 t', .slice A n c], .int .i64 k, .bool o]) ∧ Rd w' (W.heap.size ≤ ·) 4 A n (flat ecell L') ∧ DatB w' W.heap.size L' ∧ n ≤ c ∧ MgCase b t l yes R b' t' (L'.map en) k o ∧ Below W.heap.size W w'
theorem merge_all (b t ix tm : Int) (A : Option Addr) (n c : Nat) (L : List Er) (M : Option Addr) (nm cm : Nat) (more : List Er) (w : World) (hr : Rd w T 4 A n (flat ecell L)) (hd : Dat w L) (hw : Wel L) (hs : ∀ x ∈ L, x.n ≤ 1000000) (hn : n ≤ 1000000)
    (gr : Rd w T 4 M nm (flat ecell more)) (gd : Dat w more) (gw : Wel more) (gs : ∀ x ∈ more, x.n ≤ 1000000) (hnm : nm ≤ 1000000) :
    Calls Tryz.prog 127 #[.agg #[.int .i64 b, .int .i64 t, .slice A n c], .int .i64 ix, .int .i64 tm, .slice M nm cm] w (MergePost w b t (L.map en) (mergeB b t (L.map en) ix tm (more.map en)) (mergeR b (L.map en) ix (more.map en))) := by
  have hll := hr.flen ecell_len (by omega)
  by_cases hm : lmay b t (L.map en) = true
  · have hn4 : (n : Int) ≤ 4096 := by have := (lmay_iff.1 hm).2.1; rw [List.length_map] at this; omega
    by_cases hno : ix < 0 ∨ rgt ix tm 0 (more.map en) = false ∨ lstA b (L.map en) < ix ∨ ((termL b t (L.map en) ix).1 = 0 ∧ b < ix ∧ (termL b t (L.map en) ix).2 ≠ tm)
    · refine (merge_no b t ix tm A n c L M nm cm more w hr hd hw hs hm hn4 gr gd gw gs hnm hno).mono ?_
      rintro e w' ⟨A', n', c', L', k, rfl, h1, h2, h3, h4, h5⟩
      refine ⟨b, t, A', n', c', L', k, false, rfl, h1, h2, h4, .inr (.inl ⟨rfl, ?_, hm, rfl, rfl, h3⟩), h5⟩
      rintro ⟨-, y1, y2, y3, y4, -⟩
      rcases hno with h | h | h | h
      · omega
      · rw [y2] at h; cases h
      · omega
      · exact y4 h
    · have h1 : 0 ≤ ix := by
        refine Int.not_lt.1 fun h => hno (.inl h)
      have h2 : rgt ix tm 0 (more.map en) = true := by
        cases hh : rgt ix tm 0 (more.map en) with
        | true => rfl
        | false => exact absurd (.inr (.inl hh)) hno
      have h3 : ix ≤ lstA b (L.map en) := Int.not_lt.1 fun h => hno (.inr (.inr (.inl h)))
      have h4 : ¬ ((termL b t (L.map en) ix).1 = 0 ∧ b < ix ∧ (termL b t (L.map en) ix).2 ≠ tm) := fun h => hno (.inr (.inr (.inr h)))
      refine (merge_fin b t ix tm A n c L M nm cm more w hr hd hw hs hm hn4 gr gd gw gs hnm h1 h2 h3 h4).mono ?_
      intro e w' hp
      unfold MergeFin at hp
      split at hp
      · rename_i h5
        obtain ⟨A', n', c', L', rfl, k1, k2, k3, k4, k5⟩ := hp
        exact ⟨b, t, A', n', c', L', _, true, rfl, k1, k2, k4, .inl ⟨rfl, ⟨hm, h1, h2, h3, h4, h5⟩, rfl, rfl, k3, rfl⟩, k5⟩
      · rename_i h5
        obtain ⟨A', n', c', L', k, rfl, k1, k2, k3, k4, k5⟩ := hp
        exact ⟨b, t, A', n', c', L', k, false, rfl, k1, k2, k4, .inr (.inl ⟨rfl, fun y => h5 y.2.2.2.2.2, hm, rfl, rfl, k3⟩), k5⟩
  · rw [Bool.not_eq_true] at hm
    refine (merge_zero b t ix tm A n c L M nm cm w hr hw hm hn).mono ?_
    rintro e w' ⟨rfl, h⟩
    exact ⟨0, 0, none, 0, 0, [], 0, false, rfl, Rd.none_, fun y hy => (by cases hy), Nat.le_refl _, .inr (.inr ⟨rfl, fun y => (by rw [y.1] at hm; cases hm), hm, rfl, rfl, rfl⟩), h⟩
end Go.Proofs.YtmhaahcbmdhinaaGreatDoor
namespace Go.Proofs.YtmhaahcbmdhinaaGreatDoor
set_option linter.unusedVariables false
set_option linter.unusedSimpArgs false
def rdE (l : List En) : Bool := l.all fun e => !rbad e.c e.d
def mergeOk (b t : Int) (l : List En) (ix tm : Int) (more : List En) : Bool :=
  lmay b t l && decide (0 ≤ ix) && rgt ix tm 0 more && decide (ix ≤ lstA b l) && !(decide ((termL b t l ix).1 = 0) && decide (b < ix) && !decide ((termL b t l ix).2 = tm)) && lmay b t (mloop b (l, max ix b) more).1
theorem mergeOk_iff {b t : Int} {l : List En} {ix tm : Int} {more : List En} : mergeOk b t l ix tm more = true ↔ mergeB b t l ix tm more := by
  unfold mergeOk mergeB
  simp only [Bool.and_eq_true, decide_eq_true_eq, Bool.not_eq_true', Bool.and_eq_false_iff, decide_eq_false_iff_not]
  constructor
  · rintro ⟨⟨⟨⟨⟨h1, h2⟩, h3⟩, h4⟩, h5⟩, h6⟩
    refine ⟨h1, h2, h3, h4, ?_, h6⟩
    rintro ⟨k1, k2, k3⟩
    rcases h5 with (h | h) | h
    · exact h k1
    · exact h k2
    · simp at h; exact k3 h
  · rintro ⟨h1, h2, h3, h4, h5, h6⟩
    refine ⟨⟨⟨⟨⟨h1, h2⟩, h3⟩, h4⟩, ?_⟩, h6⟩
    by_cases k1 : (termL b t l ix).1 = 0
    · by_cases k2 : b < ix
      · right
        by_cases k3 : (termL b t l ix).2 = tm
        · simp [k3]
        · exact absurd ⟨k1, k2, k3⟩ h5
      · exact .inl (.inr k2)
    · exact .inl (.inl k1)
def within1 (lo hi n : Int) : Bool := decide (lo ≤ n) && decide (n ≤ hi)
def oddE (e : En) : Bool := !(within1 1 1099511627776 e.a && within1 1 1099511627776 e.b) || !within1 0 2 e.c || decide (4096 < e.d.length)
namespace Ms
variable (m : Ms)
/-- Whether a message may be. -/
def may : Bool := within1 1 6 m.kind && (within1 1 64 m.fr && within1 1 64 m.dst) && !decide (m.fr = m.dst) && within1 1 1099511627776 m.term &&
  (within1 0 1099511627776 m.ix && within1 0 1099511627776 m.lt && within1 0 1099511627776 m.cm && within1 0 1099511627776 m.rd && within1 0 1099511627776 m.off) &&
  decide (m.data.length ≤ 4096) && decide (m.es.length ≤ 64) && m.es.all fun e => !oddE e
def ahead : Bool := (m.es.any fun e => decide (m.term < e.b)) || decide (m.term < m.lt)
end Ms
namespace Cr
variable (C : Cr)
def vote (m : Ms) (draw : Int) : Cr × List Ms :=
  let ok := decide (m.term = C.s.tm) && (decide (C.s.vt = 0) || decide (C.s.vt = m.fr)) && newB C.s.b C.s.t C.s.l m.ix m.lt
  (if ok = true then ({ C with s := { C.s with vt := m.fr } } : Cr).draws draw else C, [{ C.say 2 m.fr with ok := ok }])
def voted (m : Ms) : Cr × List Ms :=
  if C.role ≠ 1 ∨ m.term ≠ C.s.tm ∨ m.ok = false then (C, []) else
  let C1 : Cr := { C with votes := C.votes ++ [m.fr] }
  if quor C1.members C1.votes = true then C1.lead else (C1, [])
def led (m : Ms) (draw : Int) : Cr := (C.follow m.fr).draws draw
def against (m : Ms) : Bool := m.es.any fun e => decide (C.s.b < e.a) && decide (e.a ≤ C.commit) && !decide (C.termOf e.a = (0, e.b))
/-- Entries are heard; k: the index that is told where they don't fit. -/
def add (m : Ms) (draw k : Int) : Cr × List Ms :=
  if m.term < C.s.tm then (C, [C.say 4 m.fr]) else
  if rdE m.es = false then (C, []) else
  let C1 := C.led m draw
  if C1.against m = true then (C1, []) else
  if mergeOk C1.s.b C1.s.t C1.s.l m.ix m.lt m.es = true then
    let r := mergeR C1.s.b C1.s.l m.ix m.es
    ({ C1.withLog r.1 with commit := max C1.commit (min m.cm r.2) }, [{ C.say 4 m.fr with rd := m.rd, ix := r.2, ok := true }])
  else (C1, [{ C.say 4 m.fr with rd := m.rd, ix := k }])
def has (who ix : Int) : Cr × List Ms :=
  let p := C.of who
  let mt := max p.mt (min ix C.last)
  let p2 : Pe := { p with mt := mt, nx := max p.nx (mt + 1) }
  let r := (C.put who p2).advance
  if r.1.role = 2 ∧ p.mt < mt ∧ p2.nx ≤ r.1.last then (r.1, r.2 ++ [r.1.send who]) else r
def told (m : Ms) : Cr × List Ms :=
  let p0 := C.of m.fr
  let p : Pe := { p0 with rd := max p0.rd m.rd }
  let C1 := C.put m.fr p
  if m.ok = true then C1.has m.fr m.ix else
  if m.kind = 4 then
    let C2 := C1.put m.fr { p with nx := max (p.mt + 1) (min (m.ix + 1) (p.nx - 1)), of := 0 }
    (C2, [C2.send m.fr])
  else if m.ix ≠ C1.s.b ∨ C1.s.b < p.nx then (C1, []) else
    let C2 := C1.put m.fr { p with of := if m.off < C1.handed.length then m.off else 0 }
    (C2, [C2.send m.fr])
/-- A text in place of entries. -/
def install (m : Ms) (text : List UInt8) : Option Cr :=
  let a := bytesS 1048576 (text, 0)
  let b := bytesS 1048576 a.1
  match confD a.2 with
  | none => none
  | some cf => if doneS b.1 ≠ 0 then none else
    some { C with s := { C.s with b := m.ix, t := m.lt, l := if C.termOf m.ix = (0, m.lt) then C.s.l.drop (m.ix - C.s.b).toNat else [], cf := cf, sn := b.2 }, commit := m.ix }
def take (m : Ms) (draw : Int) : Cr × List Ms :=
  if m.term < C.s.tm then (C, [{ C.say 6 m.fr with ix := m.ix }]) else
  let C1 := C.led m draw
  let out : Ms := { C.say 6 m.fr with ix := m.ix, rd := m.rd }
  if m.ix ≤ C1.commit then (C1, [{ out with ok := true }]) else
  let r := putR C1.key C1.hv m.ix m.off m.data m.ok
  let C2 : Cr := { C1 with key := r.1, hv := r.2.1 }
  if r.2.2.2.2 = false then (C2, [{ out with off := r.2.2.2.1 }]) else
  if m.lt < 1 then (C2, []) else
  match C2.install m r.2.2.1 with
  | none => (C2, [out])
  | some C3 => (C3, [{ out with ok := true }])
def newer (m : Ms) : Cr := if C.s.tm < m.term then ({ C with s := { C.s with tm := m.term, vt := 0 } } : Cr).follow 0 else C
/-- A message is heard. -/
def step (m : Ms) (draw k : Int) : Cr × List Ms :=
  if m.may = false ∨ m.dst ≠ C.id ∨ m.ahead = true then (C, []) else
  let C1 := C.newer m
  if m.kind = 1 then C1.vote m draw else if m.kind = 2 then C1.voted m else if m.kind = 3 then C1.add m draw k else if m.kind = 5 then C1.take m draw else
  if C1.role ≠ 2 ∨ m.term ≠ C1.s.tm then (C1, []) else C1.told m
end Cr
end Go.Proofs.YtmhaahcbmdhinaaGreatDoor
