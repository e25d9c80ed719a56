/- Put and Copy, with what holds from act to act in tollbarlaw18.NetKeeps. -/
import Derived.Test.YtaamdocibbpnkaaDoorKp
namespace Go.Proofs.YtaamdocibbpnkaaDoor
open Go.RowKit
set_option linter.unusedVariables false
set_option linter.unusedSimpArgs false
set_option maxRecDepth 100000
def PtR (W : World) (g gm : Nat) (A : Option Addr) (nl : Nat) (l : List Ic) (SA : Option Addr) (cS : Nat) (S : List (List UInt8)) (a b : Int) (nd : Nat) (d : List UInt8) (z : Int) (v : Value) (w' : World) : Prop :=
  z = (S.length : Int) + 1 ∧ v = .nilIface ∧ ∃ A2 cl2 A3 c3, Kp w' g gm A2 (nl + 1) cl2 (l ++ [⟨(S.length : Int) + 1, a, b, A3, nd, c3, d⟩]) SA cS S (S ++ [d]) ∧ (∀ ob, ob < W.heap.size → Av g gm A l SA ob → Av g gm A2 (l ++ [⟨(S.length : Int) + 1, a, b, A3, nd, c3, d⟩]) SA ob) ∧ (∀ k, k < W.heap.size → k ≠ g → some k ≠ A.map (·.block) → w'.heap[k]? = W.heap[k]?) ∧ Below gm W w'
theorem Kp.putIt (W : World) (g gm : Nat) (A SA : Option Addr) (nl cl cS : Nat) (l : List Ic) (S : List (List UInt8)) (a b : Int) (Ad : Option Addr) (nd cd : Nat) (d : List UInt8) (h : Kp W g gm A nl cl l SA cS S S) (ha : okP a = true) (hb : okP b = true) (hr : Rd W T 1 Ad nd (bs d)) (hd : nd ≤ 1048576) (hnl : nl < 100) (hS : S.length ≤ 1000000) :
    Calls Tryd.prog 8 #[.pointer (some ⟨g, 0, none⟩), .int .i64 a, .int .i64 b, .slice Ad nd cd] W (TwoPost (PtR W g gm A nl l SA cS S a b nd d)) := by
  obtain ⟨a1, a2⟩ := okP_iff.1 ha
  obtain ⟨b1, b2⟩ := okP_iff.1 hb
  refine (put_new g gm 100 (S.length : Int) 0 f0 A nl cl (flat icell l) a b Ad nd cd d W h.ni.ns a1 a2 b1 b2 (by omega) rfl hr (by omega) (by omega) (by omega) (by omega)).mono ?_
  intro e w' hp
  obtain ⟨A', cl', A3, c3, rfl, hni, h3, hat, hk, hbm⟩ := NI.put2 h.ni hd hp
  obtain ⟨k1, k2⟩ := h.put ha hb hni h3 hat hk
  exact ⟨_, _, rfl, rfl, rfl, A', cl', A3, c3, k1, k2, hk, hbm⟩
theorem Kp.copyIt (W : World) (g gm : Nat) (A SA : Option Addr) (nl cl cS : Nat) (l : List Ic) (S : List (List UInt8)) (z : Int) (h : Kp W g gm A nl cl l SA cS S S) (j : Nat) (y : Ic) (hy : l[j]? = some y) (hz : byId z y = true) (hne : ∀ x ∈ l.take j, byId z x = false) (ha : okP y.fr = true) (hb : okP y.to = true) (hnl : nl < 100) (hS : S.length ≤ 1000000) :
    Calls Tryd.prog 13 #[.pointer (some ⟨g, 0, none⟩), .int .i64 z] W (TwoPost (PtR W g gm A nl l SA cS S y.fr y.to y.n y.d)) := by
  have hgl := h.ni.ns.bx.lt
  have hgg := h.ni.ns.gg
  refine copy_put g gm 100 _ 0 _ A nl cl l z W h.ni.ns (by omega) j y hy hz hne _ fun w2 hb2 => ?_
  have hy2 := (h.ni.below hb2).data y (List.mem_of_getElem? hy)
  refine (Kp.putIt w2 g gm A SA nl cl cS l S y.fr y.to y.A y.n y.c y.d (h.below hb2) ha hb hy2.1 hy2.2 hnl hS).mono ?_
  rintro e w' ⟨z', v', rfl, rfl, rfl, A2, cl2, A3, c3, k1, k2, hk, hbm⟩
  refine ⟨_, _, rfl, rfl, rfl, A2, cl2, A3, c3, k1, fun ob hob => k2 ob (Nat.lt_of_lt_of_le hob hb2.size), fun k hk1 hk2 hk3 => ?_, (hb2.mono (by omega)).trans hbm⟩
  rw [hk k (Nat.lt_of_lt_of_le hk1 hb2.size) hk2 hk3]
  exact hb2.block k hk1
end Go.Proofs.YtaamdocibbpnkaaDoor
