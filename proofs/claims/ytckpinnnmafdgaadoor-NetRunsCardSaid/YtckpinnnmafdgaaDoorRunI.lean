/- NetRuns: what holds of the net and the document's from act to act. -/
import Derived.Test.YtckpinnnmafdgaaDoorSame
namespace Go.Proofs.YtckpinnnmafdgaaDoor
open Go.RowKit
set_option maxRecDepth 100000
set_option linter.unusedVariables false
set_option linter.unusedSimpArgs false
theorem NV.nb {W : World} {n : Nn} {p : Ps} (h : NV W n p) {b : Nat} (hb : NB n b) : b < W.heap.size ∧ n.gm ≤ b := by
  have h1 := h.ni.ns.bx.lt
  have h2 := h.ni.ns.mp.lt
  have h3 := h.ni.ns.gg
  rcases hb with rfl | rfl | e | ⟨x, hx, e⟩
  · omega
  · omega
  · have := own_lt h.ni.ns.own b e
    omega
  · have := own_lt (h.ni.dt x hx).1 b e
    omega
/-- The net is at pn, the document's is r, at pr; the law's variable, in block rb, holds q; the act is in block ab. -/
structure MG (w W : World) (n : Nn) (pn : Ps) (rb : Nat) (q r : Rn) (pr : Ps) (kn kr : Nat) (lim : Int) (ab : Nat) (cs : Array Value) : Prop where
  nv : NV W n pn
  bx : Bx W rb (rnC q)
  rv : RV W (fun b => ¬ NB n b ∧ b ≠ rb) lim r pr
  nrb : ¬ NB n rb
  lm : n.lim = lim
  gw : w.heap.size ≤ n.gm
  rw : w.heap.size ≤ rb
  be : Below w.heap.size w W
  cnt : n.cnt ≤ kn
  ln : pn.last ≤ kn
  lr : pr.last ≤ kr
  cn : r.cn ≤ kr
  ax : Bx W ab cs
  nab : ¬ NB n ab
  abr : ab ≠ rb
section
variable {w W W' : World} {n : Nn} {pn pr p' : Ps} {rb ab kn kr : Nat} {q r r' : Rn} {lim : Int} {cs : Array Value}
theorem MG.below (h : MG w W n pn rb q r pr kn kr lim ab cs) (hb : Below W.heap.size W W') : MG w W' n pn rb q r pr kn kr lim ab cs :=
  ⟨h.nv.below hb, h.bx.below hb, h.rv.below hb, h.nrb, h.lm, h.gw, h.rw, h.be.trans (hb.mono h.be.size), h.cnt, h.ln, h.lr, h.cn, h.ax.below hb, h.nab, h.abr⟩
theorem MG.alloc (h : MG w W n pn rb q r pr kn kr lim ab cs) (o : Obj) : MG w (W.alloc o) n pn rb q r pr kn kr lim ab cs := h.below ((Below.refl _ _).alloc (Nat.le_refl _) o)
theorem MG.drew (h : MG w W n pn rb q r pr kn kr lim ab cs) : MG w W.drew n pn rb q r pr kn kr lim ab cs := h.below (Below.refl _ _).drew
theorem MG.drewN (h : MG w W n pn rb q r pr kn kr lim ab cs) (k : Nat) : MG w (W.drewN k) n pn rb q r pr kn kr lim ab cs := h.below (below_drewN (Below.refl _ _) k)
theorem MG.net (h : MG w W n pn rb q r pr kn kr lim ab cs) (ha : NAft W n p' W') (hl : p'.last ≤ pn.last + 1) : ∃ n', n'.g = n.g ∧ MG w W' n' p' rb q r pr (kn + 1) kr lim ab cs := by
  obtain ⟨n', hv, hk⟩ := ha
  have hlt := h.rv
  have hlast := h.ln
  have hcnt := h.cnt
  have hkc := hk.cnt
  refine ⟨n', hk.g, hv, h.bx.keep (hk.st rb h.bx.lt h.nrb), ?_, fun hb => ?_, hk.lim.trans h.lm, by rw [hk.gm]; exact h.gw, h.rw, h.be.trans (hk.be.mono h.gw), by omega, by push_cast; omega, h.lr, h.cn, h.ax.keep (hk.st ab h.ax.lt h.nab), fun hb => ?_, h.abr⟩
  · have h1 : RV W (fun b => (¬ NB n b ∧ b ≠ rb) ∧ b < W.heap.size) lim r pr := ⟨h.rv.rn.lt, h.rv.lm, h.rv.la, h.rv.li, h.rv.cu, h.rv.nn⟩
    refine (h1.keep fun b hb hb2 => hk.st b hb2 hb.1.1).mono fun b hb => ⟨fun hn => ?_, hb.1.2⟩
    rcases hk.nb b hn with h2 | h2
    · exact hb.1.1 h2
    · omega
  · rcases hk.nb rb hb with h2 | h2
    · exact h.nrb h2
    · have := h.bx.lt; omega
  · rcases hk.nb ab hb with h2 | h2
    · exact h.nab h2
    · have := h.ax.lt; omega
theorem MG.doc (h : MG w W n pn rb q r pr kn kr lim ab cs) (ha : RAft W (fun b => ¬ NB n b ∧ b ≠ rb) lim r p' r' W') (hl : p'.last ≤ pr.last + 1) : MG w W' n pn rb q r' p' kn (kr + 1) lim ab cs := by
  obtain ⟨hv, hb, hc⟩ := ha
  have hlr := h.lr
  have hcn := h.cn
  refine ⟨h.nv.below hb, h.bx.below hb, hv.mono fun b hb2 => ?_, h.nrb, h.lm, h.gw, h.rw, h.be.trans (hb.mono h.be.size), h.cnt, h.ln, by push_cast; omega, by omega, h.ax.below hb, h.nab, h.abr⟩
  rcases hb2 with h2 | h2
  · exact h2
  · have hrl := h.bx.lt
    exact ⟨fun hn => by have := (h.nv.nb hn).1; omega, by omega⟩
/-- The law's variable takes the document's net. -/
theorem MG.store (h : MG w W n pn rb q r pr kn kr lim ab cs) : MG w ((((W.setCell ⟨rb, 0, none⟩ (.int .i64 r.lim)).setCell ⟨rb, 1, none⟩ (.int .i64 r.last)).setCell ⟨rb, 2, none⟩ (.slice r.LA r.ln r.lc)).setCell ⟨rb, 3, none⟩ (.slice r.CA r.cn r.cc)) n pn rb r r pr kn kr lim ab cs := by
  have hk : ∀ b, b ≠ rb → _ := fun b hb => four_heap (W := W) hb (.int .i64 r.lim) (.int .i64 r.last) (.slice r.LA r.ln r.lc) (.slice r.CA r.cn r.cc)
  have hrl := h.bx.lt
  have hne : ∀ b, NB n b → b ≠ rb := fun b hb e => h.nrb (e ▸ hb)
  have hbe := below_four h.be h.rw (.int .i64 r.lim) (.int .i64 r.last) (.slice r.LA r.ln r.lc) (.slice r.CA r.cn r.cc)
  refine ⟨⟨?_, h.nv.la, h.nv.li, h.nv.wy, h.nv.pk, h.nv.lm, h.nv.nm, h.nv.l0⟩, ?_, h.rv.keep fun b hb _ => hk b hb.2, h.nrb, h.lm, h.gw, h.rw, hbe, h.cnt, h.ln, h.lr, h.cn, h.ax.keep (hk ab h.abr), h.nab, h.abr⟩
  · have hn := h.nv.ni
    have hsz : ∀ v : Value, True := fun _ => trivial
    have hgrow : W.grownBy ((((W.setCell ⟨rb, 0, none⟩ (.int .i64 r.lim)).setCell ⟨rb, 1, none⟩ (.int .i64 r.last)).setCell ⟨rb, 2, none⟩ (.slice r.LA r.ln r.lc)).setCell ⟨rb, 3, none⟩ (.slice r.CA r.cn r.cc)) (some rb) :=
      ⟨rfl, rfl, rfl, by simp [World.setCell], fun k _ hkr => hk k (fun e => hkr (by rw [e]))⟩
    exact hn.grown hgrow (fun e => h.nrb (.inl (Option.some.inj e))) (fun e => h.nrb (.inr (.inl (Option.some.inj e)))) (fun b hb e => h.nrb (.inr (.inr (.inl (by rw [Option.some.inj hb]; exact e))))) (fun b hb x hx e => h.nrb (.inr (.inr (.inr ⟨x, hx, by rw [Option.some.inj hb]; exact e⟩))))
  · have h1 := (((h.bx.set 0 (.int .i64 r.lim)).set 1 (.int .i64 r.last)).set 2 (.slice r.LA r.ln r.lc)).set 3 (.slice r.CA r.cn r.cc)
    exact h1
/-- Another act. -/
theorem MG.act (h : MG w W n pn rb q r pr kn kr lim ab cs) {ab' : Nat} {cs' : Array Value} (hx : Bx W ab' cs') (h1 : ¬ NB n ab') (h2 : ab' ≠ rb) : MG w W n pn rb q r pr kn kr lim ab' cs' :=
  ⟨h.nv, h.bx, h.rv, h.nrb, h.lm, h.gw, h.rw, h.be, h.cnt, h.ln, h.lr, h.cn, hx, h1, h2⟩
theorem MG.new (h : MG w W n pn rb q r pr kn kr lim ab cs) (cs' : Array Value) (t : TypeId) : MG w (W.alloc (.cells cs' t)) n pn rb q r pr kn kr lim W.heap.size cs' :=
  (h.alloc _).act (Bx.new _ _ _ rfl) (fun hb => by have := (h.nv.nb hb).1; omega) (by have := h.bx.lt; omega)
end
theorem pPut_last (lim : Int) (p : Ps) (a b : Int) (d : List UInt8) : (pPut lim p a b d).1.last ≤ p.last + 1 := by
  unfold pPut
  split
  · split
    · show p.last ≤ _; omega
    · split
      · show p.last ≤ _; omega
      · show p.last + 1 ≤ _; omega
  · show p.last ≤ _; omega
theorem pTake_last (p : Ps) (z : Int) : (pTake p z).1.last ≤ p.last + 1 := by
  unfold pTake
  split <;> (show p.last ≤ _; omega)
theorem pCopy_last (lim : Int) (p : Ps) (z : Int) : (pCopy lim p z).1.last ≤ p.last + 1 := by
  unfold pCopy
  split
  · show p.last ≤ _; omega
  · exact pPut_last _ _ _ _ _
theorem pTurn_last (p : Ps) (z bit : Int) : (pTurn p z bit).1.last ≤ p.last + 1 := by
  unfold pTurn
  split
  · show p.last ≤ _; omega
  · split <;> (show p.last ≤ _; omega)
theorem pWay_last (p : Ps) (a b : Int) (off : Bool) : (pWay p a b off).1.last ≤ p.last + 1 := by
  unfold pWay
  split <;> (show p.last ≤ _; omega)
/-- All numbers are positive. -/
def Pos (p : Ps) : Prop := 0 ≤ p.last ∧ ∀ x ∈ p.l, 1 ≤ x.1
theorem pPut_pos (lim : Int) (p : Ps) (a b : Int) (d : List UInt8) (h : Pos p) : Pos (pPut lim p a b d).1 := by
  unfold pPut
  split
  · split
    · exact h
    · split
      · exact h
      · refine ⟨by have := h.1; show 0 ≤ p.last + 1; omega, fun x hx => ?_⟩
        rcases List.mem_append.1 hx with hx | hx
        · exact h.2 x hx
        · obtain rfl := List.mem_singleton.1 hx
          have := h.1
          show 1 ≤ p.last + 1
          omega
  · exact h
theorem pTake_pos (p : Ps) (z : Int) (h : Pos p) : Pos (pTake p z).1 := by
  unfold pTake
  split
  · exact h
  · refine ⟨h.1, fun x hx => h.2 x ?_⟩
    rcases List.mem_append.1 hx with hx | hx
    · exact List.mem_of_mem_take hx
    · exact List.mem_of_mem_drop hx
theorem pCopy_pos (lim : Int) (p : Ps) (z : Int) (h : Pos p) : Pos (pCopy lim p z).1 := by
  unfold pCopy
  split
  · exact h
  · exact pPut_pos _ _ _ _ _ h
theorem pTurn_pos (p : Ps) (z bit : Int) (h : Pos p) : Pos (pTurn p z bit).1 := by
  unfold pTurn
  split
  · exact h
  · rename_i j hj
    split
    · exact h
    · refine ⟨h.1, fun x hx => ?_⟩
      rcases List.mem_or_eq_of_mem_set hx with hx | rfl
      · exact h.2 x hx
      · obtain ⟨h1, -, -⟩ := List.findIdx?_eq_some_iff_getElem.1 hj
        have := h.2 _ (List.getElem_mem h1)
        rw [List.getD_eq_getElem?_getD, List.getElem?_eq_getElem h1]
        exact this
theorem pWay_pos (p : Ps) (a b : Int) (off : Bool) (h : Pos p) : Pos (pWay p a b off).1 := by
  unfold pWay
  split <;> exact h
/-- The number of the first one to somebody; 0: there is none. -/
def fstT (z : Int) : List Ic → Int
  | [] => 0
  | x :: l => if x.to = z then x.id else fstT z l
theorem fstT_drop {l : List Ic} {m : Nat} {x : Ic} (z : Int) (h : l[m]? = some x) : fstT z (l.drop m) = if x.to = z then x.id else fstT z (l.drop (m + 1)) := by
  obtain ⟨hm, he⟩ := List.getElem?_eq_some_iff.1 h
  rw [List.drop_eq_getElem_cons hm, he]
  rfl
theorem fstT_pl {z : Int} : ∀ {l l' : List Ic}, l.map pl = l'.map pl → fstT z l = fstT z l'
  | [], [], _ => rfl
  | [], _ :: _, h => by simp at h
  | _ :: _, [], h => by simp at h
  | x :: l, y :: l', h => by
    rw [List.map_cons, List.map_cons, List.cons.injEq] at h
    obtain ⟨e1, e2, e3, e4⟩ := pl_inj h.1
    unfold fstT
    rw [e1, e3, fstT_pl h.2]
theorem fstT_at {z : Int} : ∀ {l : List Ic} {i : Nat} {x : Ic}, l[i]? = some x → byTo z x = true → (∀ y ∈ l.take i, byTo z y = false) → fstT z l = x.id
  | [], i, x, h, _, _ => by simp at h
  | y :: l, 0, x, h, hz, _ => by
    obtain rfl : y = x := by simpa using h
    unfold fstT
    rw [if_pos (by simpa [byTo] using hz)]
  | y :: l, i + 1, x, h, hz, hne => by
    have h1 := hne y (by simp)
    unfold fstT
    rw [if_neg (by simpa [byTo] using h1)]
    exact fstT_at (by simpa using h) hz fun u hu => hne u (by rw [List.take_succ_cons]; exact List.mem_cons_of_mem _ hu)
theorem fstT_no {z : Int} : ∀ {l : List Ic}, (∀ y ∈ l, byTo z y = false) → fstT z l = 0
  | [], _ => rfl
  | y :: l, h => by
    have h1 := h y (by simp)
    unfold fstT
    rw [if_neg (by simpa [byTo] using h1)]
    exact fstT_no fun u hu => h u (List.mem_cons_of_mem _ hu)
theorem first_ok {W w' : World} {z F : Int} {l : List Ic} {p : Ps} {e : Ending} (h : FirstPost W z l e w') (hp : Pos p) (hl : l.map pl = p.l) (hF : fstT z l = F) :
    ((e = .returned (.tuple #[.int .i64 F, .nilIface]) ∧ 0 < F) ∨ (e = .returned (.tuple #[.int .i64 F, errK 8]) ∧ F = 0)) ∧ Below W.heap.size W w' := by
  obtain ⟨h, hb⟩ := h
  refine ⟨?_, hb⟩
  rcases h with ⟨i, x, rfl, hx, hz, hne⟩ | ⟨rfl, hno⟩
  · have h1 := fstT_at hx hz hne
    have hm : pl x ∈ p.l := by rw [← hl]; exact List.mem_map.2 ⟨x, List.mem_of_getElem? hx, rfl⟩
    have h2 := hp.2 _ hm
    have h3 : 1 ≤ x.id := h2
    left
    rw [← hF, h1]
    exact ⟨rfl, by omega⟩
  · right
    rw [← hF, fstT_no hno]
    exact ⟨rfl, rfl⟩
end Go.Proofs.YtckpinnnmafdgaaDoor
