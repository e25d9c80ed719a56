/- What holds from act to act in tollbarlaw18.NetKeeps. -/
import Derived.Test.YtaamdocibbpnkaaDoorPutBad
namespace Go.Proofs.YtaamdocibbpnkaaDoor
open Go.RowKit
set_option linter.unusedVariables false
set_option linter.unusedSimpArgs false
set_option maxRecDepth 100000
def sv (d : List UInt8) : Value := .string ⟨d.toArray⟩
theorem str_elem : Elem Tryd.prog 9 (.string ByteArray.empty) 1 16 := by unfold Elem; kernel_rfl
def f0 : Int → Int → Int := fun _ _ => 0
/-- S: what was noted; M: what was sent. -/
structure Kp (W : World) (g gm : Nat) (A : Option Addr) (nl cl : Nat) (l : List Ic) (SA : Option Addr) (cS : Nat) (S M : List (List UInt8)) : Prop where
  ni : NI W g gm 100 (M.length : Int) 0 f0 A nl cl l
  ow : W.ownsRow (g + 1) 9 1 (.slice SA S.length cS) S.length (S.map sv)
  ap : ∀ b, SA.map (·.block) = some b → A.map (·.block) ≠ some b ∧ ∀ x ∈ l, x.A.map (·.block) ≠ some b
  me : ∀ x ∈ l, ∃ k : Nat, x.id = (k : Int) + 1 ∧ M[k]? = some x.d ∧ okP x.fr = true ∧ okP x.to = true
  di : l.Pairwise fun x y => x.id ≠ y.id
/-- No block of theirs is ob. -/
structure Av (g gm : Nat) (A : Option Addr) (l : List Ic) (SA : Option Addr) (ob : Nat) : Prop where
  g : ob ≠ g
  gm : ob ≠ gm
  a : A.map (·.block) ≠ some ob
  s : SA.map (·.block) ≠ some ob
  x : ∀ x ∈ l, x.A.map (·.block) ≠ some ob
section
variable {W W' : World} {g gm : Nat} {A SA : Option Addr} {nl cl cS : Nat} {l : List Ic} {S M : List (List UInt8)}
theorem Kp.start (h : NS W g gm 100 0 0 (fun _ _ => 0) none 0 0 []) : Kp W g gm none 0 0 [] none 0 [] [] :=
  ⟨NI.made h, World.ownsRow_nil _ _ _ _, fun b hb => (by cases hb), by simp, .nil⟩
theorem Kp.below (h : Kp W g gm A nl cl l SA cS S M) (hb : Below W.heap.size W W') : Kp W' g gm A nl cl l SA cS S M :=
  ⟨h.ni.below hb, own_below h.ow hb, h.ap, h.me, h.di⟩
theorem Kp.av (h : Kp W g gm A nl cl l SA cS S M) {ob : Nat} (hob : W.heap.size ≤ ob) : Av g gm A l SA ob := by
  have h1 := h.ni.ns.bx.lt
  have h2 := h.ni.ns.mp.lt
  refine ⟨by omega, by omega, fun e => ?_, fun e => ?_, fun x hx e => ?_⟩
  · have := own_lt h.ni.ns.own ob e; omega
  · have := own_lt h.ow ob e; omega
  · have := own_lt (h.ni.dt x hx).1 ob e; omega
theorem Kp.grown {ob : Nat} (h : Kp W g gm A nl cl l SA cS S M) (hg : W.grownBy W' (some ob)) (ha : Av g gm A l SA ob) : Kp W' g gm A nl cl l SA cS S M := by
  refine ⟨h.ni.grown hg (fun e => ha.g (Option.some.inj e)) (fun e => ha.gm (Option.some.inj e)) (fun b hb => ?_) (fun b hb => ?_), h.ow.kept hg ?_, h.ap, h.me, h.di⟩
  · obtain rfl := Option.some.inj hb; exact ha.a
  · obtain rfl := Option.some.inj hb; exact ha.x
  · have := ha.s
    rcases SA with _ | a
    · exact .inl rfl
    · exact .inr this
theorem Kp.take {j : Nat} (h : Kp W g gm A nl cl l SA cS S M) (hni : NI W' g gm 100 (M.length : Int) 0 f0 A (nl - 1) cl (l.take j ++ l.drop (j + 1))) (hk : ∀ k, k < W.heap.size → k ≠ g → some k ≠ A.map (·.block) → W'.heap[k]? = W.heap[k]?) :
    Kp W' g gm A (nl - 1) cl (l.take j ++ l.drop (j + 1)) SA cS S M := by
  have hs := cut_sub l j
  refine ⟨hni, own_same h.ow fun k hk' => ?_, fun b hb => ⟨(h.ap b hb).1, fun x hx => (h.ap b hb).2 x (hs.subset hx)⟩, fun x hx => h.me x (hs.subset hx), h.di.sublist hs⟩
  have := own_lt h.ow k hk'
  exact hk k this.2 (by omega) (fun e => (h.ap k hk').1 e.symm)
theorem Kp.gone {j : Nat} {y : Ic} (h : Kp W g gm A nl cl l SA cS S M) (hy : l[j]? = some y) : ∀ x ∈ l.take j ++ l.drop (j + 1), byId y.id x = false := by
  obtain ⟨hj, he⟩ := List.getElem?_eq_some_iff.1 hy
  have e : l = l.take j ++ y :: l.drop (j + 1) := by
    conv => lhs; rw [← List.take_append_drop j l, List.drop_eq_getElem_cons hj, he]
  have hp := h.di
  rw [e, List.pairwise_append, List.pairwise_cons] at hp
  intro x hx
  have hne : x.id ≠ y.id := by
    rcases List.mem_append.1 hx with hx | hx
    · exact hp.2.2 x hx y (by simp)
    · exact fun e => hp.2.1.1 x hx e.symm
  simpa [byId] using hne
theorem first_id (z : Int) (l : List Ic) : (∀ x ∈ l, byId z x = false) ∨ ∃ j y, l[j]? = some y ∧ byId z y = true ∧ ∀ x ∈ l.take j, byId z x = false := by
  induction l with
  | nil => exact .inl (by simp)
  | cons x l ih =>
    by_cases hx : byId z x = true
    · exact .inr ⟨0, x, rfl, hx, by simp⟩
    · have hx' : byId z x = false := by simpa using hx
      rcases ih with ih | ⟨j, y, h1, h2, h3⟩
      · left
        intro y hy
        rcases List.mem_cons.1 hy with rfl | hy
        · exact hx'
        · exact ih y hy
      · refine .inr ⟨j + 1, y, by simpa using h1, h2, ?_⟩
        intro u hu
        rw [List.take_succ_cons] at hu
        rcases List.mem_cons.1 hu with rfl | hu
        · exact hx'
        · exact h3 u hu
theorem Kp.put {a b : Int} {nd c3 cl' : Nat} {d : List UInt8} {A' A3 : Option Addr} (h : Kp W g gm A nl cl l SA cS S S) (ha : okP a = true) (hb : okP b = true)
    (hni : NI W' g gm 100 ((S.length : Int) + 1) 0 f0 A' (nl + 1) cl' (l ++ [⟨(S.length : Int) + 1, a, b, A3, nd, c3, d⟩])) (h3 : ∀ k, A3.map (·.block) = some k → W.heap.size ≤ k)
    (hat : A'.map (·.block) = A.map (·.block) ∨ ∃ k, A'.map (·.block) = some k ∧ W.heap.size ≤ k) (hk : ∀ k, k < W.heap.size → k ≠ g → some k ≠ A.map (·.block) → W'.heap[k]? = W.heap[k]?) :
    Kp W' g gm A' (nl + 1) cl' (l ++ [⟨(S.length : Int) + 1, a, b, A3, nd, c3, d⟩]) SA cS S (S ++ [d]) ∧ ∀ ob, ob < W.heap.size → Av g gm A l SA ob → Av g gm A' (l ++ [⟨(S.length : Int) + 1, a, b, A3, nd, c3, d⟩]) SA ob := by
  have hSA : ∀ b, SA.map (·.block) = some b → b < W.heap.size := fun b hb => (own_lt h.ow b hb).2
  refine ⟨⟨?_, ?_, fun b hb => ⟨?_, fun x hx => ?_⟩, fun x hx => ?_, ?_⟩, fun ob hob hav => ⟨hav.g, hav.gm, ?_, hav.s, fun x hx => ?_⟩⟩
  · have e : ((S ++ [d]).length : Int) = (S.length : Int) + 1 := by simp
    rw [e]
    exact hni
  · refine own_same h.ow fun k hk' => ?_
    have := own_lt h.ow k hk'
    exact hk k this.2 (by omega) (fun e => (h.ap k hk').1 e.symm)
  · have := hSA b hb
    rcases hat with e1 | ⟨q, e1, hq⟩
    · rw [e1]; exact (h.ap b hb).1
    · rw [e1]; intro e2; injection e2 with e2; omega
  · have := hSA b hb
    rcases List.mem_append.1 hx with hx | hx
    · exact (h.ap b hb).2 x hx
    · obtain rfl := List.mem_singleton.1 hx
      intro e
      have := h3 b e
      omega
  · rcases List.mem_append.1 hx with hx | hx
    · obtain ⟨k, h1, h2, h4⟩ := h.me x hx
      exact ⟨k, h1, by rw [List.getElem?_append_left (List.getElem?_eq_some_iff.1 h2).1]; exact h2, h4⟩
    · obtain rfl := List.mem_singleton.1 hx
      exact ⟨S.length, rfl, by simp, ha, hb⟩
  · rw [List.pairwise_append]
    refine ⟨h.di, List.pairwise_singleton _ _, fun x hx y hy => ?_⟩
    obtain rfl := List.mem_singleton.1 hy
    obtain ⟨k, h1, h2, _⟩ := h.me x hx
    have := (List.getElem?_eq_some_iff.1 h2).1
    show x.id ≠ (S.length : Int) + 1
    omega
  · rcases hat with e1 | ⟨q, e1, hq⟩
    · rw [e1]; exact hav.a
    · rw [e1]; intro e2; injection e2 with e2; omega
  · rcases List.mem_append.1 hx with hx | hx
    · exact hav.x x hx
    · obtain rfl := List.mem_singleton.1 hx
      intro e
      have := h3 ob e
      omega
theorem Kp.sent {d : List UInt8} {SA2 : Option Addr} {c2 n2 : Nat} (h : Kp W g gm A nl cl l SA cS S (S ++ [d])) (hn : n2 = S.length + 1) (ho : W'.ownsRow (g + 1) 9 1 (.slice SA2 n2 c2) n2 (S.map sv ++ [sv d])) (hg : W.grownBy W' (SA.map (·.block))) (hat : SA2.map (·.block) = SA.map (·.block) ∨ SA2.map (·.block) = some W.heap.size) :
    Kp W' g gm A nl cl l SA2 c2 (S ++ [d]) (S ++ [d]) := by
  have hSA := own_lt h.ow
  have h1 := h.ni.ns.gg
  refine ⟨h.ni.grown hg (fun e => by have := hSA g e; omega) (fun e => by have := hSA gm e; omega) (fun b hb => (h.ap b hb).1) (fun b hb => (h.ap b hb).2), ?_, fun b hb => ?_, h.me, h.di⟩
  · subst hn
    have e1 : (S ++ [d]).length = S.length + 1 := by simp
    rw [e1, List.map_append]
    exact ho
  · rcases hat with e1 | e1
    · rw [e1] at hb
      exact h.ap b hb
    · rw [e1] at hb
      obtain rfl := Option.some.inj hb
      have hv := h.av (Nat.le_refl W.heap.size)
      exact ⟨hv.a, hv.x⟩
end
end Go.Proofs.YtaamdocibbpnkaaDoor
