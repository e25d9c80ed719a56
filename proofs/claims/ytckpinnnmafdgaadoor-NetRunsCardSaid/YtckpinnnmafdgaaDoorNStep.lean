/- The plain law of a net; what a call leaves of it, in memory: one contract a call. -/
import Derived.Test.YtckpinnnmafdgaaDoorNet2
import Derived.Test.YtckpinnnmafdgaaDoorRfC
import Derived.Test.YtckpinnnmafdgaaDoorRfW
import Derived.Test.YtckpinnnmafdgaaDoorRfU
import Derived.Test.YtckpinnnmafdgaaDoorNum
namespace Go.Proofs.YtckpinnnmafdgaaDoor
open Go.RowKit
set_option maxRecDepth 100000
set_option linter.unusedVariables false
set_option linter.unusedSimpArgs false
abbrev It := Int × Int × Int × List UInt8
/-- A net, plainly: the last number, what is on its way, which ways are cut. -/
structure Ps where
  last : Int
  l : List It
  cuts : List Pr
def pat (z : Int) (l : List It) : Option Nat := l.findIdx? fun x => x.1 == z
def pPut (lim : Int) (p : Ps) (a b : Int) (d : List UInt8) : Ps × Int × Int :=
  if okP a && okP b then if cutB p.cuts a b then (p, 0, 0) else if lim ≤ (p.l.length : Int) then (p, 0, 10) else (⟨p.last + 1, p.l ++ [(p.last + 1, a, b, d)], p.cuts⟩, p.last + 1, 0) else (p, 0, 1)
def pTake (p : Ps) (z : Int) : Ps × It × Int :=
  match pat z p.l with
  | none => (p, (0, 0, 0, []), 8)
  | some j => (⟨p.last, p.l.take j ++ p.l.drop (j + 1), p.cuts⟩, p.l.getD j (0, 0, 0, []), 0)
def pCopy (lim : Int) (p : Ps) (z : Int) : Ps × Int × Int :=
  match pat z p.l with
  | none => (p, 0, 8)
  | some j => pPut lim p (p.l.getD j (0, 0, 0, [])).2.1 (p.l.getD j (0, 0, 0, [])).2.2.1 (p.l.getD j (0, 0, 0, [])).2.2.2
def turnD (d : List UInt8) (m : Nat) : List UInt8 := d.set (m / 8) (d.getD (m / 8) 0 ^^^ ((1 : UInt8) <<< UInt8.ofNat (m % 8)))
def pTurn (p : Ps) (z bit : Int) : Ps × Int :=
  match pat z p.l with
  | none => (p, 8)
  | some j => if bit < 0 ∨ (8 * ((p.l.getD j (0, 0, 0, [])).2.2.2.length : Int) ≤ bit) then (p, 4) else (⟨p.last, p.l.set j ((p.l.getD j (0, 0, 0, [])).1, (p.l.getD j (0, 0, 0, [])).2.1, (p.l.getD j (0, 0, 0, [])).2.2.1, turnD (p.l.getD j (0, 0, 0, [])).2.2.2 bit.toNat), p.cuts⟩, 0)
def pWay (p : Ps) (a b : Int) (off : Bool) : Ps × Int :=
  if okP a && okP b then (⟨p.last, p.l, wayL a b off p.cuts⟩, 0) else (p, 1)
theorem find_first {l : List Ic} {z : Int} : (pat z (l.map pl) = none ∧ ∀ x ∈ l, byId z x = false) ∨ ∃ j y, pat z (l.map pl) = some j ∧ l[j]? = some y ∧ (l.map pl).getD j (0, 0, 0, []) = pl y ∧ byId z y = true ∧ ∀ x ∈ l.take j, byId z x = false := by
  unfold pat
  rcases h : (l.map pl).findIdx? fun x => x.1 == z with _ | j
  · left
    refine ⟨h, fun x hx => ?_⟩
    have := List.findIdx?_eq_none_iff.1 h (pl x) (List.mem_map.2 ⟨x, hx, rfl⟩)
    exact this
  · right
    obtain ⟨h1, h2, h3⟩ := List.findIdx?_eq_some_iff_getElem.1 h
    have hj : j < l.length := by simpa using h1
    refine ⟨j, l[j], h, List.getElem?_eq_getElem hj, ?_, ?_, fun x hx => ?_⟩
    · rw [List.getD_eq_getElem?_getD, List.getElem?_eq_getElem h1]
      simp
    · simpa [byId, pl] using h2
    · obtain ⟨i, hi, rfl⟩ := List.mem_iff_getElem.1 hx
      have hij : i < j := by simp at hi; omega
      have := h3 i hij
      simpa [byId, pl] using this
/-- A net as it lies in memory. -/
structure Nn where
  g : Nat
  gm : Nat
  lim : Int
  last : Int
  cnt : Nat
  f : Int → Int → Int
  A : Option Addr
  nl : Nat
  cl : Nat
  l : List Ic
/-- The blocks of a net. -/
def NB (n : Nn) (b : Nat) : Prop := b = n.g ∨ b = n.gm ∨ n.A.map (·.block) = some b ∨ ∃ x ∈ n.l, x.A.map (·.block) = some b
structure NV (W : World) (n : Nn) (p : Ps) : Prop where
  ni : NI W n.g n.gm n.lim n.last n.cnt n.f n.A n.nl n.cl n.l
  la : n.last = p.last
  li : n.l.map pl = p.l
  wy : ∀ a b, okP a = true → okP b = true → n.f (min a b) (max a b) = if cutB p.cuts a b then 1 else 0
  pk : ∀ x ∈ n.l, okP x.fr = true ∧ okP x.to = true ∧ x.n ≤ 5000
  lm : 1 ≤ n.lim ∧ n.lim ≤ 4096
  nm : (n.nl : Int) ≤ n.lim
  l0 : 0 ≤ n.last
structure NK (W : World) (n : Nn) (w' : World) (n' : Nn) : Prop where
  g : n'.g = n.g
  gm : n'.gm = n.gm
  lim : n'.lim = n.lim
  cnt : n'.cnt ≤ n.cnt + 1
  be : Below n.gm W w'
  st : ∀ k, k < W.heap.size → ¬ NB n k → w'.heap[k]? = W.heap[k]?
  nb : ∀ k, NB n' k → NB n k ∨ W.heap.size ≤ k
def NAft (W : World) (n : Nn) (p' : Ps) (w' : World) : Prop := ∃ n', NV w' n' p' ∧ NK W n w' n'
section
variable {W w' : World} {n : Nn} {p : Ps}
theorem NV.below (h : NV W n p) (hb : Below W.heap.size W w') : NV w' n p := ⟨h.ni.below hb, h.la, h.li, h.wy, h.pk, h.lm, h.nm, h.l0⟩
theorem NV.len (h : NV W n p) : p.l.length = n.nl := by
  have := h.ni.len
  rw [← h.li, List.length_map]
  exact this
theorem NV.gmlt (h : NV W n p) : n.gm < W.heap.size := h.ni.ns.mp.lt
theorem NV.still (h : NV W n p) (hb : Below W.heap.size W w') : NAft W n p w' :=
  ⟨n, h.below hb, rfl, rfl, rfl, Nat.le_succ _, hb.mono (Nat.le_of_lt h.gmlt), fun k hk _ => hb.block k hk, fun k hk => .inl hk⟩
/-- A call at a world behind this one. -/
theorem NAft.first {W2 : World} {p' : Ps} (h : NAft W2 n p' w') (hg : n.gm < W.heap.size) (hb : Below W.heap.size W W2) : NAft W n p' w' := by
  obtain ⟨n', hv, hk⟩ := h
  exact ⟨n', hv, hk.g, hk.gm, hk.lim, hk.cnt, (hb.mono (Nat.le_of_lt hg)).trans hk.be, fun k hk1 hk2 => (hk.st k (Nat.lt_of_lt_of_le hk1 hb.size) hk2).trans (hb.block k hk1), fun k hk1 => (hk.nb k hk1).imp id (fun h => Nat.le_trans hb.size h)⟩
end
theorem errV0 : errV 0 = .nilIface := rfl
theorem errVK {k : Int} (h : k ≠ 0) : errV k = errK k := by unfold errV errK; rw [if_neg h]
def nPutP (W : World) (n : Nn) (p : Ps) (a b : Int) (d : List UInt8) (e : Ending) (w' : World) : Prop := e = .returned (.tuple #[.int .i64 (pPut n.lim p a b d).2.1, errV (pPut n.lim p a b d).2.2]) ∧ NAft W n (pPut n.lim p a b d).1 w'
theorem nPut (n : Nn) (p : Ps) (a b : Int) (Ad : Option Addr) (nd cd : Nat) (d : List UInt8) (w : World) (h : NV w n p) (hr : Rd w T 1 Ad nd (bs d)) (hnd : nd ≤ 5000) (hla : n.last ≤ 1000) :
    Calls Tryd.prog 5 #[.pointer (some ⟨n.g, 0, none⟩), .int .i64 a, .int .i64 b, .slice Ad nd cd] w (nPutP w n p a b d) := by
  have hlen := h.len
  unfold nPutP pPut
  by_cases hab : okP a = true ∧ okP b = true
  · obtain ⟨ha, hb⟩ := hab
    have ha' := okP_iff.1 ha
    have hb' := okP_iff.1 hb
    have hw := h.wy a b ha hb
    rw [if_pos (by rw [ha, hb]; rfl)]
    by_cases hc : cutB p.cuts a b = true
    · rw [if_pos hc] at hw ⊢
      refine (put_no2 n.g n.gm n.lim n.last n.cnt n.f n.A n.nl n.cl (flat icell n.l) a b Ad nd cd w h.ni.ns ha'.1 ha'.2 hb'.1 hb'.2 (by omega) (by omega)).mono ?_
      rintro e w' ⟨rfl, hbe⟩
      exact ⟨rfl, h.still hbe⟩
    · rw [if_neg hc] at hw ⊢
      by_cases hl : n.lim ≤ (p.l.length : Int)
      · rw [if_pos hl]
        refine (put_full n.g n.gm n.lim n.last n.cnt n.f n.A n.nl n.cl (flat icell n.l) a b Ad nd cd w h.ni.ns ha'.1 ha'.2 hb'.1 hb'.2 (by omega) hw (by omega)).mono ?_
        rintro e w' ⟨rfl, hbe⟩
        exact ⟨rfl, h.still hbe⟩
      · rw [if_neg hl]
        have hlm := h.lm
        have hl0 := h.l0
        refine (put_new n.g n.gm n.lim n.last n.cnt n.f n.A n.nl n.cl (flat icell n.l) a b Ad nd cd d w h.ni.ns ha'.1 ha'.2 hb'.1 hb'.2 (by omega) hw hr (by omega) (by omega) hl0 (by omega)).mono ?_
        intro e w' hp
        obtain ⟨A', cl', A3, c3, rfl, hni, h3, hat, hk, hbm⟩ := NI.put2 h.ni (by omega) hp
        refine ⟨by rw [h.la, errV0], ⟨n.g, n.gm, n.lim, n.last + 1, n.cnt, n.f, A', n.nl + 1, cl', n.l ++ [⟨n.last + 1, a, b, A3, nd, c3, d⟩]⟩, ⟨hni, ?_, ?_, h.wy, ?_, h.lm, ?_, ?_⟩, ⟨rfl, rfl, rfl, Nat.le_succ _, hbm, ?_, ?_⟩⟩
        · show n.last + 1 = p.last + 1
          rw [h.la]
        · show (n.l ++ [_]).map pl = p.l ++ [_]
          rw [List.map_append, h.li, h.la]
          rfl
        · intro x hx
          rcases List.mem_append.1 hx with hx | hx
          · exact h.pk x hx
          · obtain rfl := List.mem_singleton.1 hx
            exact ⟨ha, hb, hnd⟩
        · show ((n.nl + 1 : Nat) : Int) ≤ n.lim
          omega
        · show 0 ≤ n.last + 1
          omega
        · intro k hk1 hk2
          exact hk k hk1 (fun e => hk2 (.inl e)) (fun e => hk2 (.inr (.inr (.inl e.symm))))
        · intro k hk1
          rcases hk1 with e | e | e | ⟨x, hx, e⟩
          · exact .inl (.inl e)
          · exact .inl (.inr (.inl e))
          · rcases hat with e1 | ⟨q, e1, hq⟩
            · exact .inl (.inr (.inr (.inl (e1 ▸ e))))
            · right
              have e' : A'.map (·.block) = some k := e
              rw [e1] at e'
              injection e' with e'
              omega
          · rcases List.mem_append.1 hx with hx | hx
            · exact .inl (.inr (.inr (.inr ⟨x, hx, e⟩)))
            · obtain rfl := List.mem_singleton.1 hx
              exact .inr (h3 k e)
  · have hbad : okP a = false ∨ (okP a = true ∧ okP b = false) := by
      rcases ha : okP a with _ | _
      · exact .inl rfl
      · rcases hb : okP b with _ | _
        · exact .inr ⟨rfl, rfl⟩
        · exact absurd ⟨ha, hb⟩ hab
    have hfalse : (okP a && okP b) = false := by
      rcases hbad with h1 | ⟨h1, h2⟩
      · rw [h1]; rfl
      · rw [h1, h2]; rfl
    rw [if_neg (by rw [hfalse]; decide)]
    refine (put_bad n.g a b _ w hbad).mono ?_
    rintro e w' ⟨rfl, hbe⟩
    exact ⟨rfl, h.still hbe⟩
end Go.Proofs.YtckpinnnmafdgaaDoor
