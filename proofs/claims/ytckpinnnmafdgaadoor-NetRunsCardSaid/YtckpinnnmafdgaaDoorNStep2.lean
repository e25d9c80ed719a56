/- What a call leaves of a net: Take, Copy, Turn, Cut. -/
import Derived.Test.YtckpinnnmafdgaaDoorNStep
namespace Go.Proofs.YtckpinnnmafdgaaDoor
open Go.RowKit
set_option maxRecDepth 100000
set_option linter.unusedVariables false
set_option linter.unusedSimpArgs false
theorem rd_own {W : World} {ok : Nat → Prop} {size m : Nat} {A : Option Addr} {xs : List Value} (h : Rd W ok size A m xs) : Rd W (fun b => A.map (·.block) = some b) size A m xs :=
  ⟨h.1, fun hn => by obtain ⟨ad, rfl, _, hc⟩ := h.2 hn; exact ⟨ad, rfl, rfl, hc⟩⟩
def nTakeP (W : World) (n : Nn) (p : Ps) (z : Int) (e : Ending) (w' : World) : Prop := ∃ y : Ic, e = .returned (.tuple #[icA y, errV (pTake p z).2.2]) ∧ pl y = (pTake p z).2.1 ∧ Rd w' (NB n) 1 y.A y.n (bs y.d) ∧ NAft W n (pTake p z).1 w'
theorem nTake (n : Nn) (p : Ps) (z : Int) (w : World) (h : NV w n p) :
    Calls Tryd.prog 6 #[.pointer (some ⟨n.g, 0, none⟩), .int .i64 z] w (nTakeP w n p z) := by
  have hlm := h.lm
  have hnm := h.nm
  have hff := find_first (l := n.l) (z := z)
  rw [h.li] at hff
  unfold nTakeP pTake
  rcases hff with ⟨h1, hno⟩ | ⟨j, y, h1, hy, hpl, hz, hne⟩
  · rw [h1]
    refine (take_none n.g n.gm n.lim n.last n.cnt n.f n.A n.nl n.cl n.l z w h.ni.ns (by omega) hno).mono ?_
    rintro e w' ⟨rfl, hbe⟩
    exact ⟨⟨0, 0, 0, none, 0, 0, []⟩, rfl, rfl, Rd.none_, h.still hbe⟩
  · rw [h1]
    refine (take_yes n.g n.gm n.lim n.last n.cnt n.f n.A n.nl n.cl n.l z w h.ni (by omega) j y hy hz hne).mono ?_
    rintro e w' ⟨rfl, hni, hbm, hk⟩
    have hym := List.mem_of_getElem? hy
    have hd := h.ni.dt y hym
    have hrd : Rd w' (NB n) 1 y.A y.n (bs y.d) := (rd_own (Rd.of_own (own_same hd.1 fun k hk' => by
      have := own_lt hd.1 k hk'
      exact hk k this.2 (by omega) (fun e => h.ni.sp y hym k hk' e.symm)))).mono fun b hb => .inr (.inr (.inr ⟨y, hym, hb⟩))
    refine ⟨y, rfl, hpl.symm, hrd, ⟨n.g, n.gm, n.lim, n.last, n.cnt, n.f, n.A, n.nl - 1, n.cl, n.l.take j ++ n.l.drop (j + 1)⟩, ⟨hni, h.la, ?_, h.wy, fun x hx => h.pk x ((cut_sub n.l j).subset hx), h.lm, ?_, h.l0⟩, ⟨rfl, rfl, rfl, Nat.le_succ _, hbm, ?_, ?_⟩⟩
    · show (n.l.take j ++ n.l.drop (j + 1)).map pl = _
      rw [List.map_append, List.map_take, List.map_drop, h.li]
    · show ((n.nl - 1 : Nat) : Int) ≤ n.lim
      omega
    · intro k hk1 hk2
      exact hk k hk1 (fun e => hk2 (.inl e)) (fun e => hk2 (.inr (.inr (.inl e.symm))))
    · intro k hk1
      rcases hk1 with e | e | e | ⟨x, hx, e⟩
      · exact .inl (.inl e)
      · exact .inl (.inr (.inl e))
      · exact .inl (.inr (.inr (.inl e)))
      · exact .inl (.inr (.inr (.inr ⟨x, (cut_sub n.l j).subset hx, e⟩)))
def nCopyP (W : World) (n : Nn) (p : Ps) (z : Int) (e : Ending) (w' : World) : Prop := e = .returned (.tuple #[.int .i64 (pCopy n.lim p z).2.1, errV (pCopy n.lim p z).2.2]) ∧ NAft W n (pCopy n.lim p z).1 w'
theorem nCopy (n : Nn) (p : Ps) (z : Int) (w : World) (h : NV w n p) (hla : n.last ≤ 1000) :
    Calls Tryd.prog 7 #[.pointer (some ⟨n.g, 0, none⟩), .int .i64 z] w (nCopyP w n p z) := by
  have hlm := h.lm
  have hnm := h.nm
  have hff := find_first (l := n.l) (z := z)
  rw [h.li] at hff
  unfold nCopyP pCopy
  rcases hff with ⟨h1, hno⟩ | ⟨j, y, h1, hy, hpl, hz, hne⟩
  · rw [h1]
    refine (copy_none n.g n.gm n.lim n.last n.cnt n.f n.A n.nl n.cl n.l z w h.ni.ns (by omega) hno).mono ?_
    rintro e w' ⟨rfl, hbe⟩
    exact ⟨rfl, h.still hbe⟩
  · rw [h1]
    dsimp only
    rw [hpl]
    have hd := h.ni.data y (List.mem_of_getElem? hy)
    have hpk := h.pk y (List.mem_of_getElem? hy)
    refine (copy_put n.g n.gm n.lim n.last n.cnt n.f n.A n.nl n.cl n.l z w h.ni.ns (by omega) j y hy hz hne (fun q v w' => q = (pPut n.lim p y.fr y.to y.d).2.1 ∧ v = errV (pPut n.lim p y.fr y.to y.d).2.2 ∧ NAft w n (pPut n.lim p y.fr y.to y.d).1 w') fun w2 hb2 => ?_).mono ?_
    · refine (nPut n p y.fr y.to y.A y.n y.c y.d w2 (h.below hb2) (hd.1.below hb2) hpk.2.2 hla).mono ?_
      rintro e w' ⟨rfl, ha⟩
      exact ⟨_, _, rfl, rfl, rfl, ha.first h.gmlt hb2⟩
    · rintro e w' ⟨q, v, rfl, rfl, rfl, ha⟩
      exact ⟨rfl, ha⟩
def nTurnP (W : World) (n : Nn) (p : Ps) (z bit : Int) (e : Ending) (w' : World) : Prop := e = .returned (errV (pTurn p z bit).2) ∧ NAft W n (pTurn p z bit).1 w'
theorem nTurn (n : Nn) (p : Ps) (z bit : Int) (w : World) (h : NV w n p) (hb64 : I64 bit) :
    Calls Tryd.prog 10 #[.pointer (some ⟨n.g, 0, none⟩), .int .i64 z, .int .i64 bit] w (nTurnP w n p z bit) := by
  have hlm := h.lm
  have hnm := h.nm
  have hff := find_first (l := n.l) (z := z)
  rw [h.li] at hff
  unfold nTurnP pTurn
  rcases hff with ⟨h1, hno⟩ | ⟨j, y, h1, hy, hpl, hz, hne⟩
  · rw [h1]
    refine (turn_none n.g n.gm n.lim n.last n.cnt n.f n.A n.nl n.cl n.l z bit w h.ni (by omega) hno).mono ?_
    rintro e w' ⟨rfl, hbe⟩
    exact ⟨rfl, h.still hbe⟩
  · rw [h1]
    dsimp only
    rw [hpl]
    have hym := List.mem_of_getElem? hy
    have hd := h.ni.dt y hym
    have hyl : y.d.length = y.n := (Rd.of_own hd.1).blen
    have hpk := h.pk y hym
    by_cases hout : bit < 0 ∨ 8 * ((pl y).2.2.2.length : Int) ≤ bit
    · rw [if_pos hout]
      have hout' : bit < 0 ∨ (0 ≤ bit ∧ 8 * (y.n : Int) ≤ bit) := by
        have e : ((pl y).2.2.2.length : Int) = y.n := by show (y.d.length : Int) = y.n; omega
        rw [e] at hout
        rcases hout with h | h
        · exact .inl h
        · exact .inr ⟨by omega, h⟩
      refine (turn_out n.g n.gm n.lim n.last n.cnt n.f n.A n.nl n.cl n.l z bit w h.ni (by omega) j y hy hz hne hout').mono ?_
      rintro e w' ⟨rfl, hbe⟩
      exact ⟨rfl, h.still hbe⟩
    · rw [if_neg hout]
      have e0 : ((pl y).2.2.2.length : Int) = y.n := by show (y.d.length : Int) = y.n; omega
      rw [e0] at hout
      obtain ⟨m, rfl⟩ : ∃ m : Nat, bit = m := ⟨bit.toNat, by omega⟩
      have hm8 : m < 8 * y.n := by omega
      have hjd : m / 8 < y.d.length := by omega
      have hc : y.d[m / 8]? = some (y.d.getD (m / 8) 0) := by rw [List.getD_eq_getElem?_getD, List.getElem?_eq_getElem hjd]; rfl
      refine (turn_yes n.g n.gm n.lim n.last n.cnt n.f n.A n.nl n.cl n.l z m (m / 8) (m % 8) w h.ni (by omega) j y hy hz hne hm8 rfl rfl _ hc).mono ?_
      rintro e w' ⟨rfl, hni, hbm, hk⟩
      have hjl := (List.getElem?_eq_some_iff.1 hy).1
      refine ⟨rfl, ⟨n.g, n.gm, n.lim, n.last, n.cnt, n.f, n.A, n.nl, n.cl, n.l.set j (setD y (turnD y.d m))⟩, ⟨hni, h.la, ?_, h.wy, fun x hx => ?_, h.lm, h.nm, h.l0⟩, ⟨rfl, rfl, rfl, Nat.le_succ _, hbm, ?_, ?_⟩⟩
      · show (n.l.set j _).map pl = p.l.set j _
        rw [List.map_set, h.li]
        rfl
      · rcases List.mem_or_eq_of_mem_set hx with hx | rfl
        · exact h.pk x hx
        · exact hpk
      · intro k hk1 hk2
        exact hk k hk1 (fun e => hk2 (.inr (.inr (.inr ⟨y, hym, e⟩))))
      · intro k hk1
        rcases hk1 with e | e | e | ⟨x, hx, e⟩
        · exact .inl (.inl e)
        · exact .inl (.inr (.inl e))
        · exact .inl (.inr (.inr (.inl e)))
        · rcases List.mem_or_eq_of_mem_set hx with hx | rfl
          · exact .inl (.inr (.inr (.inr ⟨x, hx, e⟩)))
          · exact .inl (.inr (.inr (.inr ⟨y, hym, e⟩)))
def nCutP (W : World) (n : Nn) (p : Ps) (a b : Int) (off : Bool) (e : Ending) (w' : World) : Prop := e = .returned (errV (pWay p a b off).2) ∧ NAft W n (pWay p a b off).1 w'
theorem onW_symm {a b x y : Int} : onW a b ⟨x, y⟩ = onW x y ⟨a, b⟩ := by
  unfold onW
  rw [Bool.eq_iff_iff]
  simp
  omega
theorem cutB_way (l : List Pr) (a b x y : Int) (off : Bool) : cutB (wayL a b off l) x y = if onW a b ⟨x, y⟩ then off else cutB l x y := by
  have key : ∀ q : Pr, onW x y q = true → onW a b q = onW a b ⟨x, y⟩ := by
    intro q hq
    unfold onW at hq ⊢
    rw [Bool.eq_iff_iff]
    simp at hq ⊢
    omega
  have h1 : cutB (offW a b l) x y = (!onW a b ⟨x, y⟩ && cutB l x y) := by
    unfold cutB offW
    rw [Bool.eq_iff_iff]
    simp only [List.any_eq_true, List.mem_filter, Bool.and_eq_true, Bool.not_eq_true']
    constructor
    · rintro ⟨q, ⟨h1, h2⟩, h3⟩
      exact ⟨by rw [← key q h3]; exact h2, q, h1, h3⟩
    · rintro ⟨h1, q, h2, h3⟩
      exact ⟨q, ⟨h2, by rw [key q h3]; exact h1⟩, h3⟩
  unfold wayL
  have h2 : cutB (offW a b l ++ if off = true then [⟨a, b⟩] else []) x y = (cutB (offW a b l) x y || (off && onW a b ⟨x, y⟩)) := by
    unfold cutB
    rw [List.any_append]
    cases off
    · simp
    · simp [onW_symm (a := x)]
  rw [h2, h1]
  rcases onW a b ⟨x, y⟩ with _ | _ <;> rcases off with _ | _ <;> simp
theorem nCut (n : Nn) (p : Ps) (a b : Int) (off : Bool) (w : World) (h : NV w n p) (hcnt : n.cnt < 100000) :
    Calls Tryd.prog 11 #[.pointer (some ⟨n.g, 0, none⟩), .int .i64 a, .int .i64 b, .bool off] w (nCutP w n p a b off) := by
  unfold nCutP pWay
  by_cases hab : okP a = true ∧ okP b = true
  · obtain ⟨ha, hb⟩ := hab
    have ha' := okP_iff.1 ha
    have hb' := okP_iff.1 hb
    rw [if_pos (by rw [ha, hb]; rfl)]
    refine (cut_two n.g n.gm n.lim n.last n.cnt n.f n.A n.nl n.cl (flat icell n.l) a b off w h.ni.ns hcnt ha'.1 ha'.2 hb'.1 hb'.2).mono ?_
    rintro e w' ⟨rfl, hns, hbm, hk⟩
    have hgg := h.ni.ns.gg
    have hni : NI w' n.g n.gm n.lim n.last (n.cnt + 1) (upd n.f (min a b) (max a b) (if off then 1 else 0)) n.A n.nl n.cl n.l := by
      refine ⟨hns, fun x hx => ?_, h.ni.sp, h.ni.ds⟩
      have hd := h.ni.dt x hx
      refine ⟨own_same hd.1 fun k hk' => ?_, hd.2⟩
      have := own_lt hd.1 k hk'
      exact hk k this.2 (by omega)
    refine ⟨rfl, ⟨n.g, n.gm, n.lim, n.last, n.cnt + 1, _, n.A, n.nl, n.cl, n.l⟩, ⟨hni, h.la, h.li, fun x y hx hy => ?_, h.pk, h.lm, h.nm, h.l0⟩, ⟨rfl, rfl, rfl, Nat.le_refl _, hbm, fun k hk1 hk2 => hk k hk1 (fun e => hk2 (.inr (.inl e))), fun k hk1 => .inl hk1⟩⟩
    show upd n.f (min a b) (max a b) (if off then 1 else 0) (min x y) (max x y) = if cutB (wayL a b off p.cuts) x y then 1 else 0
    rw [cutB_way]
    have hw := h.wy x y hx hy
    unfold upd
    by_cases hon : onW a b ⟨x, y⟩ = true
    · rw [if_pos hon, if_pos (by unfold onW at hon; simp at hon; omega)]
    · rw [if_neg hon, if_neg (by unfold onW at hon; simp at hon; omega)]
      exact hw
  · have hbad : okP a = false ∨ (okP a = true ∧ okP b = false) := by
      rcases ha : okP a with _ | _
      · exact .inl rfl
      · rcases hb : okP b with _ | _
        · exact .inr ⟨rfl, rfl⟩
        · exact absurd ⟨ha, hb⟩ hab
    have hfalse : (okP a && okP b) = false := by
      rcases hbad with h1 | ⟨h1, h2⟩
      · rw [h1]; rfl
      · rw [h1, h2]; rfl
    rw [if_neg (by rw [hfalse]; decide)]
    refine (cut_bad n.g a b off w hbad).mono ?_
    rintro e w' ⟨rfl, hbe⟩
    exact ⟨rfl, h.still hbe⟩
end Go.Proofs.YtckpinnnmafdgaaDoor
