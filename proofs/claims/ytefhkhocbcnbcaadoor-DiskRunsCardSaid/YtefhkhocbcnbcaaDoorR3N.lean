/- Walks of the document's Now and Read. -/
import Derived.Test.YtefhkhocbcnbcaaDoorR3W
import Derived.Test.YtefhkhocbcnbcaaDoorClD
import Derived.StillTailTactics
namespace Go.Proofs.YtefhkhocbcnbcaaDoor
open Go.RowKit
set_option maxRecDepth 100000
set_option linter.unusedVariables false
set_option linter.unusedSimpArgs false
theorem splice_next {l d : List UInt8} {p k : Nat} (h : p + d.length ≤ l.length) (hk : k < d.length) : splice l p (d.take (k + 1)) = (splice l p (d.take k)).set (p + k) d[k] := by
  apply List.ext_getElem?
  intro i
  have hl : (splice l p (d.take k)).length = l.length := splice_ln (by rw [List.length_take]; omega)
  rw [List.getElem?_set]
  by_cases hi : p + k = i
  · subst hi
    rw [if_pos rfl, if_pos (by omega), splice_in (by rw [List.length_take]; omega) (by rw [List.length_take]; omega), List.getElem?_take, if_pos (by omega), List.getElem?_eq_getElem hk]
  · rw [if_neg hi]
    by_cases h2 : p ≤ i ∧ i < p + k
    · obtain ⟨j, rfl⟩ : ∃ j, i = p + j := ⟨i - p, by omega⟩
      rw [splice_in (by rw [List.length_take]; omega) (by rw [List.length_take]; omega), splice_in (by rw [List.length_take]; omega) (by rw [List.length_take]; omega), List.getElem?_take, List.getElem?_take, if_pos (by omega), if_pos (by omega)]
    · rw [splice_off (by rw [List.length_take]; omega) (by rw [List.length_take]; omega), splice_off (by rw [List.length_take]; omega) (by rw [List.length_take]; omega)]
theorem splice_none {l d : List UInt8} {p : Nat} : splice l p (d.take 0) = l := by simp [splice]
theorem bs_set (l : List UInt8) (i : Nat) (x : UInt8) : bs (l.set i x) = (bs l).set i (.int .u8 (x.toNat : Int)) := by simp [bs, List.map_set]
def NowPost (W : World) (l : List UInt8) (n : Nat) (e : Ending) (w' : World) : Prop := ∃ A c, e = .returned (.slice A n c) ∧ w'.ownsRow W.heap.size 5 1 (.slice A n c) n (bs l) ∧ Below W.heap.size W w'
section
variable {ok : Nat → Prop} {R : R3} {BA LA : Option Addr} {bn bc ln lc : Nat} {ls : List Wq}
/-- Between the rounds: the row so far, the box of the argument. -/
structure NowI (w : World) (R : R3) (BA LA : Option Addr) (bn bc ln lc : Nat) (A : Option Addr) (c : Nat) (l : List UInt8) (wr : World) : Prop where
  own : wr.ownsRow (w.heap.size + 1) 5 1 (.slice A bn c) bn (bs l)
  bx : Bx wr w.heap.size #[.slice BA bn bc, .slice LA ln lc, .int .i64 R.armed, .bool R.off]
  be : Below w.heap.size w wr
theorem NowI.set {w wr W' : World} {g c : Nat} {l : List UInt8} {i : Nat} {x : UInt8} (h : NowI w R BA LA bn bc ln lc (some ⟨g, 0, none⟩) c l wr) (hb : Below wr.heap.size wr W') : NowI w R BA LA bn bc ln lc (some ⟨g, 0, none⟩) c (l.set i x) (W'.setCell ⟨g, i, none⟩ (.int .u8 (x.toNat : Int))) := by
  have hg := own_lt h.own g rfl
  have ho := own_below h.own hb
  refine ⟨?_, (h.bx.below hb).far (by show w.heap.size ≠ g; omega) _, (h.be.trans (hb.mono h.be.size)).setCell (by show w.heap.size ≤ g; omega) _⟩
  rw [bs_set]
  exact (ho.stored i _).1
set_option maxHeartbeats 3200000 in
theorem now3_any (w : World) (h : RS w ok R BA bn bc LA ln lc ls) (hf : Fit bn R.l) (hbn : bn ≤ 4194304) (hln : ln ≤ 1000000) :
    Calls Tryd.prog 33 #[rval R BA bn bc LA ln lc] w (NowPost w R.now bn) := by
  have hblen := h.blen
  have hqlen := h.qlen
  have H := Lib.hid h
  have Hf := Lib.hid hf
  have Hbl := Lib.hid hblen
  have Hq := Lib.hid hqlen
  unfold rval R3.now
  have hinv : ∀ A1 c1 w1, w1.ownsRow (w.heap.size + 1) 5 1 (.slice A1 bn c1) bn (bs R.b) → (w.alloc (.cells #[.slice BA bn bc, .slice LA ln lc, .int .i64 R.armed, .bool R.off] 31)).grownBy w1 none → NowI w R BA LA bn bc ln lc A1 c1 R.b w1 := fun A1 c1 w1 ho hg => ⟨ho, (Bx.new w _ _ rfl).grown hg (by intro e; cases e), ((Below.refl _ _).alloc (Nat.le_refl _) _).grown hg (by simp) (by simp)⟩
  have Hinv := Lib.hid hinv
  clear h hf hblen hqlen hinv
  go_enter Tryd.func33, Tryd.ntmps33
  go_wp2_with (at_builtin; refine wpList_append_any (news := bs R.b) _ Tryd.underlying28 u8_elem rfl (by omega) rfl rfl rfl (World.ownsRow_nil _ (w.heap.size + 1) 5 1) rfl (H.out.b.alloc _) (bs_one _) (by omega) (by simp) (Nat.zero_add _) (List.nil_append _) ?_; intro A1 c1 w1 hown1 hg1 hat1; have hi1 := Lib.hid (Hinv.out A1 c1 w1 hown1 hg1); clear hown1 hg1 hat1)
  go_loopg [4] ln (fun m s4 wr => ∃ j, m = ln - j ∧ j ≤ ln ∧ s4 = .int .i64 (j : Nat) ∧ NowI w R BA LA bn bc ln lc A1 c1 (lain R.b (R.l.take j)) wr)
  case atStart => exact ⟨0, by omega, by omega, rfl, hi1.out⟩
  case round =>
    obtain ⟨j, hm, hj, rfl, hi⟩ := hrel
    have Hm := Lib.hid hm
    have Hi := Lib.hid hi
    have k1 : wr.cell? ⟨w.heap.size, 1, none⟩ = some (.slice LA ln lc) := hi.bx.c 1
    clear hm hi
    by_cases hlt : j < ln
    · obtain ⟨b, o, x, rfl, _, hbl, hx, d0, d1⟩ := w_cells (H.out.l.below Hi.out.be) hlt
      have hjI : (j : Int) < ln := by omega
      have h0j : (0 : Int) ≤ j := by omega
      have hq : R.l[j]? = some (x.p, x.d) := by rw [← H.out.q]; show (ls.map wq)[j]? = _; rw [List.getElem?_map, hx]; rfl
      have hfit := Hf.out _ (List.mem_of_getElem? hq)
      have hxd := (H.out.d x (List.mem_of_getElem? hx)).1
      have hxl := hxd.blen
      dsimp only at hfit
      have hkeep : ∀ w', Below w.heap.size w w' → w'.cell? ⟨b, o + j * 2, none⟩ = some (.int .i64 (x.p : Int)) ∧ w'.cell? ⟨b, o + j * 2 + 1, none⟩ = some (.slice x.A x.n x.m) := fun w' hb => by
        obtain ⟨b', o', x', e, _, _, hx', q0, q1⟩ := w_cells (H.out.l.below hb) hlt
        injection e with e
        injection e with e1 e2 _
        subst e1 e2
        obtain rfl : x = x' := Option.some.inj (hx.symm.trans hx')
        exact ⟨q0, q1⟩
      have Hkeep := Lib.hid hkeep
      have Hq2 := Lib.hid hq
      have Hxd := Lib.hid hxd
      clear hkeep hq hx hxd d0 d1
      go_wp2_with fail
      go_loopg [5] x.n (fun m s5 w2 => ∃ k, m = x.n - k ∧ k ≤ x.n ∧ s5 = .int .i64 (k : Nat) ∧ NowI w R BA (some ⟨b, o, none⟩) bn bc ln lc A1 c1 (splice (lain R.b (R.l.take j)) x.p (x.d.take k)) w2)
      case atStart => exact ⟨0, by omega, by omega, rfl, by rw [splice_none]; exact Hi.out⟩
      case round =>
        obtain ⟨k, hm, hk, rfl, hi2⟩ := hrel
        obtain ⟨w2, rfl⟩ : ∃ w2, w2 = wr := ⟨_, rfl⟩
        have Hm2 := Lib.hid hm
        have Hi2 := Lib.hid hi2
        obtain ⟨d0, d1⟩ := Hkeep.out w2 hi2.be
        have k2 : w2.cell? ⟨w.heap.size, 1, none⟩ = some (.slice (some ⟨b, o, none⟩) ln lc) := hi2.bx.c 1
        have hcurl : (lain R.b (R.l.take j)).length = bn := by rw [lain_len (by rw [Hbl.out]; exact fun y hy => Hf.out y (List.mem_of_mem_take hy)), Hbl.out]
        by_cases hkn : k < x.n
        · have hkI : (k : Int) < x.n := by omega
          have h0k : (0 : Int) ≤ k := by omega
          have h0p : (0 : Int) ≤ x.p := by omega
          have hpk : x.p + k < bn := by omega
          have hpkI : (x.p : Int) + k < bn := by omega
          have h0pk : (0 : Int) ≤ (x.p : Int) + k := by omega
          have wpk : IntKind.i64.wrap ((x.p : Int) + k) = (x.p : Int) + k := by rw [IntKind.wrap_i64]; omega
          obtain ⟨g, cap, hv, hgB, hgl⟩ := hi2.own.form (by omega)
          injection hv with hv _ hcap
          subst hv hcap
          obtain ⟨b6, o6, hxA, _, hl6, hc6⟩ := (Hxd.out.below hi2.be).plain (by omega) (by omega)
          have e6 : w2.cell? ⟨b6, o6 + k, none⟩ = some (.int .u8 ((x.d[k]'(by omega)).toNat : Int)) := hc6 k _ (bs_get x.d k (by omega))
          rw [hxA] at d1
          have hnext := hi2.set (i := x.p + k) (x := x.d[k]'(by omega)) (Below.refl w2.heap.size w2).drew
          rw [← splice_next (by rw [hcurl, hxl]; exact (by omega)) (by omega)] at hnext
          obtain ⟨u, hu⟩ : ∃ u : Nat, u = (x.d[k]'(by omega)).toNat := ⟨_, rfl⟩
          rw [← hu] at hnext e6
          have q0 : ∃ v, w2.cell? ⟨g, x.p + k, none⟩ = some v := Option.isSome_iff_exists.1 (own_isSome hi2.own (x.p + k) (by have := own_le hi2.own; omega))
          obtain ⟨v9, q0⟩ := q0
          have q1 : w2.frozen? ⟨g, x.p + k, none⟩ = false := by
            rcases hi2.own.2 with ⟨h', _⟩ | ⟨g', cap', cur, h', _, hg, _⟩
            · simp at h'
            · simp only [Value.slice.injEq, Option.some.injEq, Addr.mk.injEq, and_true, true_and] at h'
              obtain ⟨rfl, rfl⟩ := h'
              simp [World.frozen?, hg]
          have Hnext := Lib.hid hnext
          clear hm hi2 hnext hc6 hu hxA hcurl
          go_wp2_with fail
          go_still_tail 19, (by kernel_rfl)
          change wpList _ _ _ _ _ (World.drew _)
          go_wp2_with fail
          all_goals
            go_roundg (x.n - (k + 1))
            case measure => have := Hm2.out; omega
            case rel => exact ⟨k + 1, rfl, by omega, by go_num, Hnext.out⟩
        · obtain rfl : k = x.n := by omega
          have hnext := hi2
          have e9 : x.d.take x.n = x.d := List.take_of_length_le (by omega)
          rw [e9] at hnext
          clear e9
          have hq2 : lain R.b (R.l.take (j + 1)) = splice (lain R.b (R.l.take j)) x.p x.d := by
            rw [List.take_add_one, Hq2.out]
            exact lain_one
          rw [← hq2] at hnext
          have Hnext := Lib.hid hnext
          clear hm hi2 hnext hq2 hcurl
          go_wp2_with fail
          go_roundg (ln - (j + 1))
          case measure => have := Hm.out; omega
          case rel => exact ⟨j + 1, rfl, by omega, by go_num, Hnext.out⟩
    · obtain rfl : j = ln := by omega
      go_wp2_with fail
      go_ret
      have ho := Hi.out.own
      rw [List.take_of_length_le (by rw [Hq.out]; exact Nat.le_refl _)] at ho
      exact ⟨A1, c1, rfl, own_mono' ho (by omega), Hi.out.be⟩
def Read3Post (W : World) (b : List UInt8) (k : Int) (e : Ending) (w' : World) : Prop := ∃ A c, e = .returned (.tuple #[.slice A b.length c, .int .i64 k]) ∧ Rd w' (W.heap.size ≤ ·) 1 A b.length (bs b) ∧ Below W.heap.size W w'
set_option maxHeartbeats 1600000 in
theorem read3_any (p n : Int) (hp : I64 p) (hn : I64 n) (w : World) (h : RS w ok R BA bn bc LA ln lc ls) (hf : Fit bn R.l) (hbn : bn ≤ 4194304) (hln : ln ≤ 1000000) :
    Calls Tryd.prog 20 #[rval R BA bn bc LA ln lc, .int .i64 p, .int .i64 n] w (Read3Post w (R.read p n).1 (R.read p n).2) := by
  have hbad := fun w1 => bad_any (BA := BA) (bc := bc) (LA := LA) (ln := ln) (lc := lc) p n hp hn w1 h.blen hbn
  have hnow := fun w1 (hb : Below w.heap.size w w1) => now3_any w1 (h.below hb) hf hbn hln
  have hbl := h.blen
  have hb0 : Below w.heap.size w (w.alloc (.cells #[.slice BA bn bc, .slice LA ln lc, .int .i64 R.armed, .bool R.off] 31)) := (Below.refl _ _).alloc (Nat.le_refl _) _
  have x0 : Bx (w.alloc (.cells #[.slice BA bn bc, .slice LA ln lc, .int .i64 R.armed, .bool R.off] 31)) w.heap.size #[.slice BA bn bc, .slice LA ln lc, .int .i64 R.armed, .bool R.off] := Bx.new _ _ _ rfl
  have X0 := Lib.hid x0
  have Hb0 := Lib.hid hb0
  have hnl : R.now.length = bn := by
    unfold R3.now
    rw [lain_len (by rw [hbl]; exact hf), hbl]
  have Hnl := Lib.hid hnl
  unfold R3.read
  by_cases h0 : R.bad p n = 0
  · rw [if_pos h0]
    dsimp only
    rw [h0] at hbad
    have h1 : (0 ≤ p ∧ 0 ≤ n ∧ p + n ≤ bn) := by
      unfold R3.bad at h0
      rw [hbl] at h0
      split at h0
      · cases h0
      · omega
    obtain ⟨p', rfl⟩ := Int.eq_ofNat_of_zero_le h1.1
    obtain ⟨n', rfl⟩ := Int.eq_ofNat_of_zero_le h1.2.1
    simp only [Int.toNat_natCast]
    have hl : ((R.now.drop p').take n').length = n' := by
      rw [List.length_take, List.length_drop, hnl]
      omega
    obtain ⟨l, hle⟩ : ∃ l, l = (R.now.drop p').take n' := ⟨_, rfl⟩
    rw [← hle] at hl ⊢
    unfold Read3Post
    rw [hl]
    have Hle := Lib.hid hle
    have Hbad := Lib.hid hbad
    have Hnow := Lib.hid hnow
    have hpn : (p' : Int) ≤ ((p' + n' : Nat) : Int) := by omega
    clear h h0 hle hl hbad hnow x0 hb0 hnl
    unfold rval at Hbad Hnow ⊢
    go_enter Tryd.func20, Tryd.ntmps20
    go_wp2_with fail
    refine (Hbad.out _).mono ?_
    rintro e w1 ⟨rfl, hb1⟩
    obtain ⟨y0, y1, y2, y3, -⟩ := (X0.out.below hb1).c4
    have hbw := Hb0.out.trans (hb1.mono Hb0.out.size)
    have Hbw := Lib.hid hbw
    clear hb1 hbw
    go_wp2_with fail
    refine (Hnow.out w1 Hbw.out).mono ?_
    rintro e w2 ⟨A2, c2, rfl, hown2, hb2⟩
    have hrun := run_slice_lohi (P := Tryd.prog) 28 Tryd.underlying28 (size := 1) (by kernel_rfl) A2 bn c2
    have hc2 := own_le hown2
    obtain ⟨ad, had⟩ : ∃ ad, ad = (if c2 = p' then A2 else A2.map (·.add (p' * 1))) := ⟨_, rfl⟩
    have hsl : ∀ W : World, (Instr.sliceAt 28 (.slice A2 bn c2) (some (.int .i64 (p' : Int))) (some (.int .i64 ((p' : Int) + n'))) none).run Tryd.prog W = .ok (.slice ad n' (c2 - p')) W := by
      intro W
      have := hrun W p' (p' + n') (by omega) (by omega)
      rw [← had] at this
      rw [show ((p' : Int) + n') = ((p' + n' : Nat) : Int) by push_cast; rfl, this, show p' + n' - p' = n' by omega]
    have hrd := (Rd.of_own hown2).bsub (i := p') (k := n') (m := c2) (by omega) (by omega)
    have e1 : (if c2 = p' then A2 else A2.map (·.add p')) = ad := by rw [had, Nat.mul_one]
    rw [e1, ← Hle.out] at hrd
    have Hrd := Lib.hid hrd
    have Hb2 := Lib.hid hb2
    clear hrd hb2 had e1 hrun hown2
    go_wp2_with fail
    go_ret2
    exact ⟨ad, _, rfl, Hrd.out.mono fun b hb => Nat.le_trans Hbw.out.size hb, Hbw.out.trans (Hb2.out.mono Hbw.out.size)⟩
  · rw [if_neg h0]
    dsimp only
    generalize R.bad p n = k at h0 hbad ⊢
    have Hbad := Lib.hid hbad
    clear h hbad hnow x0 hb0
    unfold rval at Hbad ⊢
    go_enter Tryd.func20, Tryd.ntmps20
    go_wp2_with fail
    refine (Hbad.out _).mono ?_
    rintro e w1 ⟨rfl, hb1⟩
    have hbw := Hb0.out.trans (hb1.mono Hb0.out.size)
    have Hbw := Lib.hid hbw
    clear hb1 hbw
    go_wp2_with fail
    go_ret2
    exact ⟨none, 0, rfl, Rd.none_, Hbw.out⟩
end
end Go.Proofs.YtefhkhocbcnbcaaDoor
