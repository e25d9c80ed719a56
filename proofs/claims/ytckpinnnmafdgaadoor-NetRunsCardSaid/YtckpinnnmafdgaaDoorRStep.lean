/- What a call of the document's leaves of its net: one contract a call. -/
import Derived.Test.YtckpinnnmafdgaaDoorNStep2
namespace Go.Proofs.YtckpinnnmafdgaaDoor
open Go.RowKit
set_option maxRecDepth 100000
set_option linter.unusedVariables false
set_option linter.unusedSimpArgs false
structure RV (W : World) (ok : Nat → Prop) (lim : Int) (r : Rn) (p : Ps) : Prop where
  rn : RN W ok r
  lm : r.lim = lim
  la : r.last = p.last
  li : r.l.map pl = p.l
  cu : r.cuts = p.cuts
  nn : r.LA = none → r.lc = 0
def RAft (W : World) (ok : Nat → Prop) (lim : Int) (r : Rn) (p' : Ps) (r' : Rn) (w' : World) : Prop := RV w' (fun b => ok b ∨ W.heap.size ≤ b) lim r' p' ∧ Below W.heap.size W w' ∧ r'.cn ≤ r.cn + 1
section
variable {W w' : World} {ok : Nat → Prop} {lim : Int} {r : Rn} {p : Ps}
theorem RV.below (h : RV W ok lim r p) (hb : Below W.heap.size W w') : RV w' ok lim r p := ⟨h.rn.below hb, h.lm, h.la, h.li, h.cu, h.nn⟩
theorem RV.mono {ok' : Nat → Prop} (h : RV W ok lim r p) (hm : ∀ b, ok b → ok' b) : RV W ok' lim r p := ⟨h.rn.mono hm, h.lm, h.la, h.li, h.cu, h.nn⟩
theorem RV.keep (h : RV W ok lim r p) (hk : ∀ b, ok b → b < W.heap.size → w'.heap[b]? = W.heap[b]?) : RV w' ok lim r p := ⟨h.rn.keep hk, h.lm, h.la, h.li, h.cu, h.nn⟩
theorem RV.still (h : RV W ok lim r p) (hb : Below W.heap.size W w') : RAft W ok lim r p r w' := ⟨(h.below hb).mono fun b hb => .inl hb, hb, Nat.le_succ _⟩
theorem RV.len (h : RV W ok lim r p) : p.l.length = r.ln := by
  have := h.rn.len
  rw [← h.li, List.length_map]
  exact this
end
def rPutP (W : World) (ok : Nat → Prop) (lim : Int) (r : Rn) (p : Ps) (a b : Int) (d : List UInt8) (e : Ending) (w' : World) : Prop := ∃ r', e = .returned (.tuple #[rnA r', .int .i64 (pPut lim p a b d).2.1, .int .i64 (pPut lim p a b d).2.2]) ∧ RAft W ok lim r (pPut lim p a b d).1 r' w'
theorem rPut (lim : Int) (r : Rn) (p : Ps) (a b : Int) (Ad : Option Addr) (nd cd : Nat) (d : List UInt8) (w : World) {ok : Nat → Prop} (h : RV w ok lim r p) (hr : Rd w ok 1 Ad nd (bs d)) (hnd : nd ≤ 5000) (hlim : lim ≤ 4096) (l0 : 0 ≤ r.last) (hla : r.last ≤ 1000) :
    Calls Tryd.prog 19 #[rnA r, .int .i64 a, .int .i64 b, .slice Ad nd cd] w (rPutP w ok lim r p a b d) := by
  have hlen := h.len
  unfold rPutP pPut
  by_cases hab : okP a = true ∧ okP b = true
  · obtain ⟨ha, hb⟩ := hab
    rw [if_pos (by rw [ha, hb]; rfl)]
    by_cases hc : cutB p.cuts a b = true
    · rw [if_pos hc]
      refine (putR_stay r a b Ad nd cd w h.rn hnd 0 (.inr ⟨ha, hb, .inl ⟨by rw [h.cu]; exact hc, rfl⟩⟩)).mono ?_
      rintro e w' ⟨rfl, hbe⟩
      exact ⟨r, rfl, h.still hbe⟩
    · have hc' : cutB r.cuts a b = false := by rw [h.cu]; simpa using hc
      rw [if_neg hc]
      by_cases hl : lim ≤ (p.l.length : Int)
      · rw [if_pos hl]
        refine (putR_stay r a b Ad nd cd w h.rn hnd 10 (.inr ⟨ha, hb, .inr ⟨hc', by rw [h.lm]; omega, rfl⟩⟩)).mono ?_
        rintro e w' ⟨rfl, hbe⟩
        exact ⟨r, rfl, h.still hbe⟩
      · rw [if_neg hl]
        have hlm := h.lm
        refine (putR_new r a b Ad nd cd d w h.rn hnd hr ha hb hc' (by omega) (by omega) l0 (by omega) h.nn).mono ?_
        rintro e w' ⟨LA', lc', rfl, hrn, hnn, hbe⟩
        refine ⟨_, by rw [← h.la], ⟨hrn, h.lm, ?_, ?_, h.cu, hnn⟩, hbe, Nat.le_succ _⟩
        · show r.last + 1 = p.last + 1
          rw [h.la]
        · show (r.l ++ [_]).map pl = p.l ++ [_]
          rw [List.map_append, h.li, h.la]
          rfl
  · have hbad : okP a = false ∨ (okP a = true ∧ okP b = false) := by
      rcases ha : okP a with _ | _
      · exact .inl rfl
      · rcases hb : okP b with _ | _
        · exact .inr ⟨rfl, rfl⟩
        · exact absurd ⟨ha, hb⟩ hab
    have hfalse : (okP a && okP b) = false := by
      rcases hbad with h1 | ⟨h1, h2⟩
      · rw [h1]; rfl
      · rw [h1, h2]; rfl
    rw [if_neg (by rw [hfalse]; decide)]
    refine (putR_stay r a b Ad nd cd w h.rn hnd 1 (.inl ⟨hbad, rfl⟩)).mono ?_
    rintro e w' ⟨rfl, hbe⟩
    exact ⟨r, rfl, h.still hbe⟩
def rTakeP (W : World) (ok : Nat → Prop) (lim : Int) (r : Rn) (p : Ps) (z : Int) (e : Ending) (w' : World) : Prop := ∃ r', ∃ y : Ic, e = .returned (.tuple #[rnA r', icA y, .int .i64 (pTake p z).2.2]) ∧ pl y = (pTake p z).2.1 ∧ Rd w' ok 1 y.A y.n (bs y.d) ∧ RAft W ok lim r (pTake p z).1 r' w'
theorem rTake (lim : Int) (r : Rn) (p : Ps) (z : Int) (w : World) {ok : Nat → Prop} (h : RV w ok lim r p) :
    Calls Tryd.prog 15 #[rnA r, .int .i64 z] w (rTakeP w ok lim r p z) := by
  have hff := find_first (l := r.l) (z := z)
  rw [h.li] at hff
  unfold rTakeP pTake
  rcases hff with ⟨h1, hno⟩ | ⟨j, y, h1, hy, hpl, hz, hne⟩
  · rw [h1]
    refine (takeR_none r z w h.rn hno).mono ?_
    rintro e w' ⟨rfl, hbe⟩
    exact ⟨r, ⟨0, 0, 0, none, 0, 0, []⟩, rfl, rfl, Rd.none_, h.still hbe⟩
  · rw [h1]
    refine (takeR_yes r z w h.rn j y hy hz hne).mono ?_
    rintro e w' ⟨LA', lc', rfl, hrn, hnn, hbe⟩
    have hd := h.rn.dt y (List.mem_of_getElem? hy)
    refine ⟨_, y, rfl, hpl.symm, hd.1.below hbe, ⟨hrn, h.lm, h.la, ?_, h.cu, hnn⟩, hbe, Nat.le_succ _⟩
    show (r.l.take j ++ r.l.drop (j + 1)).map pl = _
    rw [List.map_append, List.map_take, List.map_drop, h.li]
def rCopyP (W : World) (ok : Nat → Prop) (lim : Int) (r : Rn) (p : Ps) (z : Int) (e : Ending) (w' : World) : Prop := ∃ r', e = .returned (.tuple #[rnA r', .int .i64 (pCopy lim p z).2.1, .int .i64 (pCopy lim p z).2.2]) ∧ RAft W ok lim r (pCopy lim p z).1 r' w'
theorem rCopy (lim : Int) (r : Rn) (p : Ps) (z : Int) (w : World) {ok : Nat → Prop} (h : RV w ok lim r p) (hlim : lim ≤ 4096) (l0 : 0 ≤ r.last) (hla : r.last ≤ 1000) :
    Calls Tryd.prog 16 #[rnA r, .int .i64 z] w (rCopyP w ok lim r p z) := by
  have hff := find_first (l := r.l) (z := z)
  rw [h.li] at hff
  unfold rCopyP pCopy
  rcases hff with ⟨h1, hno⟩ | ⟨j, y, h1, hy, hpl, hz, hne⟩
  · rw [h1]
    refine (copyR_none r z w h.rn hno).mono ?_
    rintro e w' ⟨rfl, hbe⟩
    exact ⟨r, rfl, h.still hbe⟩
  · rw [h1]
    dsimp only
    rw [hpl]
    have hd := h.rn.dt y (List.mem_of_getElem? hy)
    have hlt : RV w (fun b => ok b ∧ b < w.heap.size) lim r p := ⟨h.rn.lt, h.lm, h.la, h.li, h.cu, h.nn⟩
    refine (copyR_put r z w h.rn j y hy hz hne (fun r' q k w' => q = (pPut lim p y.fr y.to y.d).2.1 ∧ k = (pPut lim p y.fr y.to y.d).2.2 ∧ RV w' (fun b => (ok b ∨ w.heap.size ≤ b) ∧ b ≠ w.heap.size + 1) lim r' (pPut lim p y.fr y.to y.d).1 ∧ r'.cn ≤ r.cn + 1) fun w2 hb2 hz2 => ?_).mono ?_
    · refine (rPut lim r p y.fr y.to y.A y.n y.c y.d w2 (hlt.below hb2) ((hd.1.lt (by omega)).below hb2) hd.2 hlim l0 hla).mono ?_
      rintro e w' ⟨r', rfl, ha, hbe, hcn⟩
      exact ⟨r', _, _, rfl, ⟨rfl, rfl, ha.mono fun b hb => by
        rcases hb with hb | hb
        · exact ⟨.inl hb.1, by omega⟩
        · exact ⟨.inr (by omega), by omega⟩, hcn⟩, hbe⟩
    · rintro e w' ⟨r', q, k, w1, rfl, ⟨rfl, rfl, ha, hcn⟩, hb1, hbe, hk⟩
      exact ⟨r', rfl, (ha.keep fun b hb _ => hk b hb.2).mono fun b hb => hb.1, hbe, hcn⟩
def rTurnP (W : World) (ok : Nat → Prop) (lim : Int) (r : Rn) (p : Ps) (z bit : Int) (e : Ending) (w' : World) : Prop := ∃ r', e = .returned (.tuple #[rnA r', .int .i64 (pTurn p z bit).2]) ∧ RAft W ok lim r (pTurn p z bit).1 r' w'
theorem rTurn (lim : Int) (r : Rn) (p : Ps) (z bit : Int) (w : World) {ok : Nat → Prop} (h : RV w ok lim r p) (hb64 : I64 bit) :
    Calls Tryd.prog 17 #[rnA r, .int .i64 z, .int .i64 bit] w (rTurnP w ok lim r p z bit) := by
  have hff := find_first (l := r.l) (z := z)
  rw [h.li] at hff
  unfold rTurnP pTurn
  rcases hff with ⟨h1, hno⟩ | ⟨j, y, h1, hy, hpl, hz, hne⟩
  · rw [h1]
    refine (turnR_none r z bit w h.rn hno).mono ?_
    rintro e w' ⟨rfl, hbe⟩
    exact ⟨r, rfl, h.still hbe⟩
  · rw [h1]
    dsimp only
    rw [hpl]
    have hd := h.rn.dt y (List.mem_of_getElem? hy)
    have hyl : y.d.length = y.n := hd.1.blen
    unfold I64 at hb64
    by_cases hout : bit < 0 ∨ 8 * ((pl y).2.2.2.length : Int) ≤ bit
    · rw [if_pos hout]
      have e0 : ((pl y).2.2.2.length : Int) = y.n := by show (y.d.length : Int) = y.n; omega
      rw [e0] at hout
      have hout' : bit < 0 ∨ ∃ m jj : Nat, bit = m ∧ jj = m / 8 ∧ y.n ≤ jj ∧ m < 9223372036854775808 := by
        rcases hout with h | h
        · exact .inl h
        · exact .inr ⟨bit.toNat, bit.toNat / 8, by omega, rfl, by omega, by omega⟩
      refine (turnR_out r z bit w h.rn j y hy hz hne hout').mono ?_
      rintro e w' ⟨rfl, hbe⟩
      exact ⟨r, rfl, h.still hbe⟩
    · rw [if_neg hout]
      have e0 : ((pl y).2.2.2.length : Int) = y.n := by show (y.d.length : Int) = y.n; omega
      rw [e0] at hout
      obtain ⟨m, rfl⟩ : ∃ m : Nat, bit = m := ⟨bit.toNat, by omega⟩
      have hjd : m / 8 < y.d.length := by omega
      have hc : y.d[m / 8]? = some (y.d.getD (m / 8) 0) := by rw [List.getD_eq_getElem?_getD, List.getElem?_eq_getElem hjd]; rfl
      refine (turnR_yes r z m (m / 8) (m % 8) w h.rn j y hy hz hne rfl rfl (by omega) _ hc).mono ?_
      rintro e w' ⟨LA', lc', A, c, rfl, hrn, hnn, hbe⟩
      refine ⟨_, rfl, ⟨hrn, h.lm, h.la, ?_, h.cu, hnn⟩, hbe, Nat.le_succ _⟩
      show (r.l.set j _).map pl = p.l.set j _
      rw [List.map_set, h.li]
      rfl
def rWayP (W : World) (ok : Nat → Prop) (lim : Int) (r : Rn) (p : Ps) (a b : Int) (off : Bool) (e : Ending) (w' : World) : Prop := ∃ r', e = .returned (.tuple #[rnA r', .int .i64 (pWay p a b off).2]) ∧ RAft W ok lim r (pWay p a b off).1 r' w'
theorem rWay (lim : Int) (r : Rn) (p : Ps) (a b : Int) (off : Bool) (w : World) {ok : Nat → Prop} (h : RV w ok lim r p) (hcn : r.cn ≤ 4000) :
    Calls Tryd.prog 18 #[rnA r, .int .i64 a, .int .i64 b, .bool off] w (rWayP w ok lim r p a b off) := by
  unfold rWayP pWay
  by_cases hab : okP a = true ∧ okP b = true
  · obtain ⟨ha, hb⟩ := hab
    rw [if_pos (by rw [ha, hb]; rfl)]
    refine (wayR_yes r a b off w h.rn ha hb hcn).mono ?_
    rintro e w' ⟨CA', cn', cc', rfl, hrn, hc, hbe⟩
    exact ⟨_, rfl, ⟨hrn, h.lm, h.la, h.li, by show wayL a b off r.cuts = _; rw [h.cu], h.nn⟩, hbe, hc⟩
  · have hbad : okP a = false ∨ (okP a = true ∧ okP b = false) := by
      rcases ha : okP a with _ | _
      · exact .inl rfl
      · rcases hb : okP b with _ | _
        · exact .inr ⟨rfl, rfl⟩
        · exact absurd ⟨ha, hb⟩ hab
    have hfalse : (okP a && okP b) = false := by
      rcases hbad with h1 | ⟨h1, h2⟩
      · rw [h1]; rfl
      · rw [h1, h2]; rfl
    rw [if_neg (by rw [hfalse]; decide)]
    refine (wayR_bad r a b off w hbad).mono ?_
    rintro e w' ⟨rfl, hbe⟩
    exact ⟨r, rfl, h.still hbe⟩
end Go.Proofs.YtckpinnnmafdgaaDoor
