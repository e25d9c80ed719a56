/- A member that is new, in memory.
   The law's group: another member stands in the place of one.
   The law's group: one member more stands in it.
   Walk: laid of the law
   Walk: (*group).hears of the law
   Plain: the theorem of safety: who stands has all that was committed ahead, and there is but one in a term -/
import Derived.Test.YtmhaahcbmdhinaaGreatDoorZM23
import Derived.Test.YtmhaahcbmdhinaaGreatDoorZM32
import Derived.Test.YtmhaahcbmdhinaaGreatDoorZM17
import Derived.Laws.OwnMore
import Derived.Test.YtmhaahcbmdhinaaGreatDoorZM1
namespace Go.Proofs.YtmhaahcbmdhinaaGreatDoor
open Go.RowKit
set_option maxRecDepth 100000
set_option linter.unusedVariables false
set_option linter.unusedSimpArgs false
def Cr.new (id span draw : Int) (s : St) : Cr := ⟨s, 0, 0, s.b, 0, id, span, 0, drw span draw, [], fun _ => none, 0, []⟩
theorem Cr.Ok.new {id span draw : Int} {s : St} (hm : s.may = true) (hsn : s.sn.length ≤ 1048576) (h1 : 1 ≤ id ∧ id ≤ 64) (h2 : 2 ≤ span ∧ span ≤ 1000) : (Cr.new id span draw s).Ok 1 := by
 obtain ⟨_, _, h3, _⟩ := St.may_iff hm
 refine ⟨hm, hsn, h1, h2, by show (0 : Int) ≤ 0 ∧ (0 : Int) ≤ 2; decide, by show (0 : Int) ≤ 0 ∧ (0 : Int) ≤ 64; decide, ⟨h3.1, h3.2.1⟩, by show (0 : Int) ≤ 0 ∧ (0 : Int) ≤ ((1 : Nat) : Int); decide, by show (0 : Int) ≤ 0 ∧ (0 : Int) ≤ 2000; decide, drw_in h2, ⟨by show (0 : Nat) ≤ 1; decide, fun v hv => by cases hv⟩, (fun _ _ h => by cases h), by show I64 0; unfold I64; omega, by show (0 : Nat) ≤ _; omega, by decide⟩
def newMb (p : Nat) (s : Sv) : Mb := ⟨s, none, 0, 0, p, none, 0, 0⟩
theorem CX.ofNew {fb p : Nat} {W w' : World} {id span draw : Int} {s : St} {s' : Sv} (hfb : fb ≤ W.heap.size) (hb : Bx w' (p + 1) (coreC s' 0 0 s.b 0 id span 0 (drw span draw) (.slice none 0 0) p 0 (.slice none 0 0))) (ha : s'.At w' (fun b => W.heap.size ≤ b ∧ b < p)) (hs : s'.st = s) (hp : W.heap.size ≤ p) (hm : w'.heap[p]? = some (.map #[] 0)) :
  CX fb w' (p + 1) (fun b => b = p ∨ b = p + 1) (fun b => b = p ∨ b = p + 1) (Cr.new id span draw s) (newMb p s') := by
 have hpl := hb.lt
 refine ⟨hb, Pm.made_at hm, .inr rfl, .inl rfl, by show p ≠ p + 1; omega, (fun g hg => by cases hg), fun b h => h, fun b h => by rcases h with rfl | rfl <;> omega, fun b h => by rcases h with rfl | rfl <;> omega, ⟨rfl, .inl ⟨rfl, rfl⟩⟩, ha.mono fun b hb h => by have := hb.2; rcases h with rfl | rfl <;> omega, hs, Rd.none_, ⟨Nat.le_refl _, by simp [newMb, maxLen]⟩⟩
theorem CX.ofNewU {fb p : Nat} {W w' : World} {U : Nat → Prop} {id span draw : Int} {s : St} {s' : Sv} (hfb : fb ≤ W.heap.size) (hU : ∀ b, U b → b < W.heap.size) (hz : W.heap.size ≤ w'.heap.size) (hb : Bx w' (p + 1) (coreC s' 0 0 s.b 0 id span 0 (drw span draw) (.slice none 0 0) p 0 (.slice none 0 0))) (ha : s'.At w' (fun b => W.heap.size ≤ b ∧ b < p)) (hs : s'.st = s) (hp : W.heap.size ≤ p) (hm : w'.heap[p]? = some (.map #[] 0)) :
  CX fb w' (p + 1) (fun b => b = p ∨ b = p + 1) (fun b => U b ∨ (b = p ∨ b = p + 1)) (Cr.new id span draw s) (newMb p s') := by
 have hpl := hb.lt
 refine ⟨hb, Pm.made_at hm, .inr rfl, .inl rfl, by show p ≠ p + 1; omega, (fun g hg => by cases hg), fun b h => .inr h, fun b h => by rcases h with rfl | rfl <;> omega, fun b h => ?_, ⟨rfl, .inl ⟨rfl, rfl⟩⟩, ha.mono fun b hb h => ?_, hs, Rd.none_, ⟨Nat.le_refl _, by simp [newMb, maxLen]⟩⟩
 ·rcases h with h | rfl | rfl
  ·exact Nat.lt_of_lt_of_le (hU b h) hz
  ·omega
  ·omega
 ·have h2 := hb.2
  have h1 := hb.1
  rcases h with h | rfl | rfl
  ·have := hU b h; omega
  ·omega
  ·omega
theorem Gr.swap {fb n gb nn cn : Nat} {W W' : World} {U : Nat → Prop} {p : Nat → Nat} {V : Nat → Nat → Prop} {C : Nat → Cr} {m : Nat → Mb} {span : Int} {cells : Array Value} {N : Option Addr} {NX : List Mr} {X : Nat → Prop} {D : Nat → List Er} {ld : List Int}
  (h : Gr fb W U n p V C m gb span cells N nn cn NX X D ld) (h7 : n ≤ 7) {i q : Nat} (hi : i < n) (hb : Below W.heap.size W W') {V' : Nat → Prop} {D' : Cr} {m' : Mb} (hx : CX fb W' q V' (fun b => U b ∨ V' b) D' m') (hnew : ∀ b, V' b → W.heap.size ≤ b) :
  Gr fb (W'.setCell ⟨gb, i, none⟩ (.pointer (some ⟨q, 0, none⟩))) (fun b => U b ∨ V' b) n (upd p i q) (upd V i V') (upd C i D') (upd m i m') gb span (cells.setIfInBounds i (.pointer (some ⟨q, 0, none⟩))) N nn cn NX X D ld := by
 have hul := (h.gx.cx i hi).ul
 have hn : ∀ b, b < W.heap.size → (U b ∨ V' b) → U b := fun b hl hu => hu.elim id fun h9 => by have := hnew b h9; omega
 have hgl := h.bx.lt
 have g1 : Gx fb W' (fun b => U b ∨ V' b) n p V C m := h.gx.keep (fun b hb => .inl hb) hn (fun b hl _ => hb.block b hl) hb.size hx.ul
 have g2 := g1.swap hi hx fun j hj hji b hv hvj => by have := hnew b hv; have := hul b ((h.gx.cx j hj).vu b hvj); omega
 have hkp : Kept (· = gb) W' (W'.setCell ⟨gb, i, none⟩ (.pointer (some ⟨q, 0, none⟩))) := kset (Kept.refl _ _) _
 have hgV : ∀ j, j < n → ¬ upd V i V' j gb := fun j hj h9 => by
  by_cases e : j = i
  ·rw [e, upd_self] at h9; have := hnew gb h9; omega
  ·rw [upd_ne e] at h9; exact h.gu.2.2 j hj h9
 have hVn : ∀ b, b < W.heap.size → (∀ j, j < n → ¬ V j b) → ∀ j, j < n → ¬ upd V i V' j b := fun b hl hv j hj h9 => by
  by_cases e : j = i
  ·rw [e, upd_self] at h9; have := hnew b h9; omega
  ·rw [upd_ne e] at h9; exact hv j hj h9
 have g3 : Gx fb (W'.setCell ⟨gb, i, none⟩ (.pointer (some ⟨q, 0, none⟩))) (fun b => U b ∨ V' b) n (upd p i q) (upd V i V') (upd C i D') (upd m i m') := g2.keep (fun _ h => h) (fun _ _ h => h) (fun b hl ho => hkp.block b hl fun e => by
  rcases ho with ⟨j, hj, hv⟩ | ho
  ·exact hgV j hj (e ▸ hv)
  ·exact ho (.inl (e ▸ h.gu.1))) hkp.size (fun b hb => Nat.lt_of_lt_of_le (hx.ul b hb) hkp.size)
 have hcs : ∀ j, j ≠ i → (cells.setIfInBounds i (.pointer (some ⟨q, 0, none⟩)))[j]? = cells[j]? := fun j hj => by rw [Array.getElem?_setIfInBounds_ne (fun e => hj e.symm)]
 have hbn : ∀ b, N.map (·.block) = some b → b < W.heap.size := fun b hb => (own_lt h.ow b hb).2
 have kW : Kept (· = gb) W (W'.setCell ⟨gb, i, none⟩ (.pointer (some ⟨q, 0, none⟩))) := (Kept.of_new hb).trans hkp fun b _ h => h
 refine ⟨g3, (h.en.new hb).kept hkp (fun b hb => hb ▸ h.gu.2.1), (h.bx.below hb).set i _, (hcs 8 (by omega)).trans h.net, fun j hj => ?_, (hcs 7 (by omega)).trans h.sp, kW.own h.ow fun b hb e => (h.nu b hb).2.2.1 e, h.few, ⟨.inl h.gu.1, h.gu.2.1, hgV⟩, fun b hb => ?_, fun x hx9 => ?_, fun b hX => ?_, h.dn.keep kW (fun b hX e => (h.xu b hX).2.2.1 e) (fun b _ hu e => hu (e ▸ h.gu.1)) hn fun j hj => hcs j (by omega)⟩
 ·by_cases e : j = i
  ·subst e
   have hl : j < cells.size := (Array.getElem?_eq_some_iff.1 (h.ptr j hj)).1
   rw [if_pos hi, upd_self]
   simp [hl]
  ·rw [hcs j e, h.ptr j hj, upd_ne e]
 ·obtain ⟨h1, h2, h3, h4⟩ := h.nu b hb
  exact ⟨.inl h1, h2, h3, hVn b (hbn b hb) h4⟩
 ·have h8 := h.at_ x hx9
  exact ⟨(h8.1.lt.keep fun b hb hl => kW.block b hl fun e => hb.1 (e ▸ h.gu.1)).mono fun b hb e => e.elim hb.1 fun e => by have := hnew b e; have := hb.2; omega, h8.2⟩
 ·obtain ⟨a1, a2, a3, a4, a5, a6⟩ := h.xu b hX
  exact ⟨.inl a1, a2, a3, a4, Nat.lt_of_lt_of_le a5 kW.size, hVn b a5 a6⟩
theorem GrIs.swap {fb n gb : Nat} {W W' : World} {span : Int} {p : Nat → Nat} {g : Gs} {F : Nat → Prop} (h : GrIs fb W n gb span p g F) (h7 : n ≤ 7) {i q : Nat} (hi : i < n) (hb : Below W.heap.size W W') {draw : Int} {s' : Sv} {s : St} {id sp : Int}
  (hbx : Bx W' (q + 1) (coreC s' 0 0 s.b 0 id sp 0 (drw sp draw) (.slice none 0 0) q 0 (.slice none 0 0))) (ha : s'.At W' (fun b => W.heap.size ≤ b ∧ b < q)) (hs : s'.st = s) (hp : W.heap.size ≤ q) (hm : W'.heap[q]? = some (.map #[] 0)) :
  GrIs fb (W'.setCell ⟨gb, i, none⟩ (.pointer (some ⟨q + 1, 0, none⟩))) n gb span (upd p i (q + 1)) { g with C := upd g.C i (Cr.new id sp draw s) } F ∧ KeepF F W (W'.setCell ⟨gb, i, none⟩ (.pointer (some ⟨q + 1, 0, none⟩))) := by
 obtain ⟨U, V, m, cells, N, nn, cn, NX, X, D, a, b, c, d⟩ := h
 have hx := CX.ofNewU (U := U) a.en.le (a.gx.cx i hi).ul hb.size hbx ha hs hp hm
 have g2 := a.swap h7 hi hb hx fun z hz => by rcases hz with rfl | rfl <;> omega
 have kW : Kept (· = gb) W (W'.setCell ⟨gb, i, none⟩ (.pointer (some ⟨q + 1, 0, none⟩))) := (Kept.of_new hb).trans (V := (· = gb)) (kset (Kept.refl _ _) _) fun b _ h => h
 refine ⟨⟨_, _, _, _, _, _, _, _, X, D, g2, b, c, fun z hz => ⟨fun h9 => ?_, Nat.lt_of_lt_of_le (d z hz).2 kW.size⟩⟩, KeepF.of_kept kW fun z hz => ⟨(d z hz).2, fun e => (d z hz).1 (e ▸ a.gu.1)⟩⟩
 rcases h9 with h9 | h9
 ·exact (d z hz).1 h9
 ·have := (d z hz).2
  rcases h9 with rfl | rfl <;> omega
theorem Gr.more {fb n gb nn cn : Nat} {W W' : World} {U : Nat → Prop} {p : Nat → Nat} {V : Nat → Nat → Prop} {C : Nat → Cr} {m : Nat → Mb} {span : Int} {cells : Array Value} {N : Option Addr} {NX : List Mr} {X : Nat → Prop} {D : Nat → List Er} {ld : List Int}
  (h : Gr fb W U n p V C m gb span cells N nn cn NX X D ld) (hul : ∀ b, U b → b < W.heap.size) (h7 : n < 7) {q : Nat} (hb : Below W.heap.size W W') {V' : Nat → Prop} {D' : Cr} {m' : Mb} (hx : CX fb W' q V' (fun b => U b ∨ V' b) D' m') (hnew : ∀ b, V' b → W.heap.size ≤ b) :
  Gr fb (W'.setCell ⟨gb, n, none⟩ (.pointer (some ⟨q, 0, none⟩))) (fun b => U b ∨ V' b) (n + 1) (upd p n q) (upd V n V') (upd C n D') (upd m n m') gb span (cells.setIfInBounds n (.pointer (some ⟨q, 0, none⟩))) N nn cn NX X D ld := by
 have hn : ∀ b, b < W.heap.size → (U b ∨ V' b) → U b := fun b hl hu => hu.elim id fun h9 => by have := hnew b h9; omega
 have hgl := h.bx.lt
 have g1 : Gx fb W' (fun b => U b ∨ V' b) n p V C m := h.gx.keep (fun b hb => .inl hb) hn (fun b hl _ => hb.block b hl) hb.size hx.ul
 have g2 := g1.more hx fun j hj b hv hvj => by have := hnew b hv; have := hul b ((h.gx.cx j hj).vu b hvj); omega
 have hkp : Kept (· = gb) W' (W'.setCell ⟨gb, n, none⟩ (.pointer (some ⟨q, 0, none⟩))) := kset (Kept.refl _ _) _
 have hgV : ∀ j, j < n + 1 → ¬ upd V n V' j gb := fun j hj h9 => by
  by_cases e : j = n
  ·rw [e, upd_self] at h9; have := hnew gb h9; omega
  ·rw [upd_ne e] at h9; exact h.gu.2.2 j (by omega) h9
 have hVn : ∀ b, b < W.heap.size → (∀ j, j < n → ¬ V j b) → ∀ j, j < n + 1 → ¬ upd V n V' j b := fun b hl hv j hj h9 => by
  by_cases e : j = n
  ·rw [e, upd_self] at h9; have := hnew b h9; omega
  ·rw [upd_ne e] at h9; exact hv j (by omega) h9
 have g3 : Gx fb (W'.setCell ⟨gb, n, none⟩ (.pointer (some ⟨q, 0, none⟩))) (fun b => U b ∨ V' b) (n + 1) (upd p n q) (upd V n V') (upd C n D') (upd m n m') := g2.keep (fun _ h => h) (fun _ _ h => h) (fun b hl ho => hkp.block b hl fun e => by
  rcases ho with ⟨j, hj, hv⟩ | ho
  ·exact hgV j hj (e ▸ hv)
  ·exact ho (.inl (e ▸ h.gu.1))) hkp.size (fun b hb => Nat.lt_of_lt_of_le (hx.ul b hb) hkp.size)
 have hcs : ∀ j, j ≠ n → (cells.setIfInBounds n (.pointer (some ⟨q, 0, none⟩)))[j]? = cells[j]? := fun j hj => by rw [Array.getElem?_setIfInBounds_ne (fun e => hj e.symm)]
 have hbn : ∀ b, N.map (·.block) = some b → b < W.heap.size := fun b hb => (own_lt h.ow b hb).2
 have kW : Kept (· = gb) W (W'.setCell ⟨gb, n, none⟩ (.pointer (some ⟨q, 0, none⟩))) := (Kept.of_new hb).trans hkp fun b _ h => h
 refine ⟨g3, (h.en.new hb).kept hkp (fun b hb => hb ▸ h.gu.2.1), (h.bx.below hb).set n _, (hcs 8 (by omega)).trans h.net, fun j hj => ?_, (hcs 7 (by omega)).trans h.sp, kW.own h.ow fun b hb e => (h.nu b hb).2.2.1 e, h.few, ⟨.inl h.gu.1, h.gu.2.1, hgV⟩, fun b hb => ?_, fun x hx9 => ?_, fun b hX => ?_, h.dn.keep kW (fun b hX e => (h.xu b hX).2.2.1 e) (fun b _ hu e => hu (e ▸ h.gu.1)) hn fun j hj => hcs j (by omega)⟩
 ·by_cases e : j = n
  ·subst e
   have hl : j < cells.size := (Array.getElem?_eq_some_iff.1 (h.ptr j hj)).1
   rw [if_pos (by omega), upd_self]
   simp [hl]
  ·rw [hcs j e, h.ptr j hj, upd_ne e]
   by_cases e2 : j < n
   ·rw [if_pos e2, if_pos (by omega)]
   ·rw [if_neg e2, if_neg (by omega)]
 ·obtain ⟨h1, h2, h3, h4⟩ := h.nu b hb
  exact ⟨.inl h1, h2, h3, hVn b (hbn b hb) h4⟩
 ·have h8 := h.at_ x hx9
  exact ⟨(h8.1.lt.keep fun b hb hl => kW.block b hl fun e => hb.1 (e ▸ h.gu.1)).mono fun b hb e => e.elim hb.1 fun e => by have := hnew b e; have := hb.2; omega, h8.2⟩
 ·obtain ⟨a1, a2, a3, a4, a5, a6⟩ := h.xu b hX
  exact ⟨.inl a1, a2, a3, a4, Nat.lt_of_lt_of_le a5 kW.size, hVn b a5 a6⟩
def confN (n : Nat) : List Int := (List.range n).map fun i : Nat => (i : Int) + 1
def st0 (n : Nat) : St := ⟨0, 0, 0, 0, [], confN n, []⟩
theorem confN_snoc (j : Nat) : confN (j + 1) = confN j ++ [(j : Int) + 1] := by unfold confN; rw [List.range_succ, List.map_append]; rfl
theorem st0_may {n : Nat} (h : 1 ≤ n ∧ n ≤ 5) : (st0 n).may = true := by
 obtain ⟨h1, h2⟩ := h
 have : n = 1 ∨ n = 2 ∨ n = 3 ∨ n = 4 ∨ n = 5 := by omega
 rcases this with rfl | rfl | rfl | rfl | rfl <;> rfl
structure First (n : Nat) (g : Gs) : Prop where
 c : ∀ i, i < n → g.C i = Cr.new ((i : Int) + 1) 4 (i : Int) (st0 n)
 net : g.net = []
 done : ∀ k, k < 7 → g.done k = []
 leads : g.leads = List.replicate 200 0
def LaidPost (n : Nat) (W : World) (e : Ending) (w' : World) : Prop := ∃ gb p g, e = .returned (.pointer (some ⟨gb, 0, none⟩)) ∧ GrIs W.heap.size w' n gb 4 p g (fun b => b < W.heap.size) ∧ First n g ∧ Below W.heap.size W w'
def gcells (a : Nat) : Array Value := #[.pointer none, .pointer none, .pointer none, .pointer none, .pointer none, .pointer none, .pointer none, .int .i64 4, .slice none 0 0, .slice none 0 0, .slice none 0 0, .slice none 0 0, .slice none 0 0, .slice none 0 0, .slice none 0 0, .slice none 0 0, .slice (some ⟨a, 0, none⟩) 200 200]
theorem Gr.zero {W W' : World} {gb a : Nat} (he : Env W.heap.size W) (hb : Below W.heap.size W W') (bx : Bx W' gb (gcells a)) (ow : W'.ownsRow W.heap.size 3 1 (.slice (some ⟨a, 0, none⟩) 200 200) 200 (ii (List.replicate 200 0))) (h1 : W.heap.size ≤ gb) (hne : a ≠ gb) :
  Gr W.heap.size W' (fun b => b = gb ∨ b = a) 0 (fun _ => 0) (fun _ _ => False) (fun _ => Cr.new 0 0 0 (st0 0)) (fun _ => newMb 0 ⟨0, 0, 0, 0, none, 0, 0, [], none, 0, 0, [], none, 0, 0, []⟩) gb 4 (gcells a) none 0 0 [] (fun b => b = a) (fun _ => []) (List.replicate 200 0) := by
 have hal := own_lt ow a rfl
 have hnil : ∀ (k : Nat), k < 7 → (gcells a)[9 + k]? = some (.slice none 0 0) := fun k hk => by
  have : k = 0 ∨ k = 1 ∨ k = 2 ∨ k = 3 ∨ k = 4 ∨ k = 5 ∨ k = 6 := by omega
  rcases this with rfl | rfl | rfl | rfl | rfl | rfl | rfl <;> rfl
 refine ⟨⟨fun i hi => by omega, fun i j hi => by omega⟩, he.new hb, bx, rfl, fun i hi => ?_, rfl, World.ownsRow_nil _ _ _ _, by omega, ⟨.inl rfl, h1, fun i hi => by omega⟩, (fun b hb => by cases hb), (fun x hx => by cases hx), fun b hb => ?_, ⟨fun k hk => ⟨none, 0, 0, hnil k hk, World.ownsRow_nil _ _ _ _, (fun b hb => by cases hb), fun y hy => by cases hy⟩, ⟨some ⟨a, 0, none⟩, 200, rfl, own_mono ow (Nat.zero_le _), fun b hb => ?_⟩⟩⟩
 ·have : i = 0 ∨ i = 1 ∨ i = 2 ∨ i = 3 ∨ i = 4 ∨ i = 5 ∨ i = 6 := by omega
  rw [if_neg (by omega)]
  rcases this with rfl | rfl | rfl | rfl | rfl | rfl | rfl <;> rfl
 ·subst hb
  exact ⟨.inr rfl, hal.1, hne, by simp, hal.2, fun i hi => by omega⟩
 ·have hba : b = a := Option.some.inj hb.symm
  subst hba
  refine ⟨rfl, fun k' A' n' c' hk' h9 => ?_⟩
  rw [hnil k' hk'] at h9
  injection h9 with h9
  injection h9 with h9
  rw [← h9]
  simp
set_option maxHeartbeats 12800000 in
theorem laidg_any (n : Nat) (w : World) (he : Env w.heap.size w) (hn : 1 ≤ n ∧ n ≤ 5) :
  Calls Tryz.prog 29 #[.int .i64 (n : Int), .int .i64 (n : Int), .int .i64 4] w (LaidPost n w) := by
 obtain ⟨i0, hi, hz, hsize, hby⟩ := info_parts int_elem
 obtain ⟨Z, hZ⟩ : ∃ Z, Z = madeCells #[.int .i64 0] 200 := ⟨_, rfl⟩
 have hmk : ∀ w : World, (Instr.makeSlice 25 (.int .i64 200) (.int .i64 200)).run Tryz.prog w = .ok (.slice (some ⟨w.heap.size, 0, none⟩) 200 200) (w.alloc (.cells Z 3)) := by
  intro w
  have hr := run_make (P := Tryz.prog) w 25 3 i0 (.int .i64 0) Tryz.underlying25 hi hz .i64 .i64 200 200 (by omega) (Int.le_refl _) (by rw [hby]; omega) (by omega)
  rw [hZ]
  have e : (200 : Int).toNat = 200 := rfl
  simp only [e, hsize, Nat.mul_one] at hr
  exact hr
 have hZl : Z.toList = ii (List.replicate 200 0) := by rw [hZ, toList_madeCells_one]; unfold ii; rw [List.map_replicate]
 have hZs : Z.size = 200 := by rw [← Array.length_toList, hZl]; simp [ii]
 clear hi hz hsize hby hZ
 have H := Lib.hid (And.intro he (And.intro hn (And.intro hZl hZs)))
 clear he hZl hZs
 go_enter Tryz.func29, Tryz.ntmps29
 go_upto_region 2 with (fail)
 obtain ⟨W1, hW1⟩ : ∃ W1, W1 = (w.alloc (.cells Z 3)).alloc (.cells (gcells w.heap.size) 89) := ⟨_, rfl⟩
 have bx : Bx W1 (w.heap.size + 1) (gcells w.heap.size) := by subst hW1; exact Bx.new _ _ _ (by simp)
 have b1 : Below w.heap.size w W1 := by subst hW1; exact ((Below.refl _ _).alloc (Nat.le_refl _) _).alloc (by simp) _
 have ow1 : W1.ownsRow w.heap.size 3 1 (.slice (some ⟨w.heap.size, 0, none⟩) 200 200) 200 (ii (List.replicate 200 0)) := by
  subst hW1
  have h9 : (w.alloc (.cells Z 3)).ownsRow w.heap.size 3 1 (.slice (some ⟨w.heap.size, 0, none⟩) 200 200) 200 Z.toList := World.ownsRow_lit w _ 200 (Nat.le_refl _) (by simp [maxLen]) (by rw [H.out.2.2.2])
  rw [H.out.2.2.1] at h9
  exact own_below h9 ((Below.refl _ _).alloc (Nat.le_refl _) _)
 have G0 := Gr.zero H.out.1 b1 bx ow1 (by omega) (by omega)
 have HW1 := hW1
 unfold gcells at HW1
 rw [← HW1]
 clear HW1 hW1 hmk
 have K := Lib.hid (And.intro G0 (And.intro b1 bx.lt))
 clear G0 b1 bx ow1
 go_wp2_with fail
 go_loopg [8, 9] n (fun gm s8 s9 wr => ∃ (j : Nat) (A : Option Addr) (c : Nat), gm = n - j ∧ j ≤ n ∧ s8 = .slice A j c ∧ s9 = .int .i64 j ∧ wr.ownsRow W1.heap.size 3 1 (.slice A j c) j (ii (confN j)) ∧ Below W1.heap.size W1 wr)
 case atStart => exact ⟨0, none, 0, by omega, by omega, rfl, rfl, World.ownsRow_nil _ _ _ _, Below.refl _ _⟩
 case round =>
  obtain ⟨j, A, c, hm, hj, rfl, rfl, ho, hb⟩ := hrel
  have R := Lib.hid (And.intro hm (And.intro ho hb))
  clear hm ho hb
  by_cases hlt : j < n
  ·have hjI : decide ((j : Int) < (n : Int)) = true := decide_eq_true (by omega)
   have hjN : decide (j < n) = true := decide_eq_true hlt
   have hjw : IntKind.i64.wrap ((j : Int) + 1) = (j : Int) + 1 := by rw [IntKind.wrap_i64]; omega
   go_wp2_with (at_builtin; refine wpList_append_any (news := [.int .i64 ((j : Int) + 1)]) _ Tryz.underlying39 int_elem rfl (by omega) rfl rfl rfl (R.out.2.1.alloc _) rfl (Rd.blit (cs := #[.int .i64 ((j : Int) + 1)]) rfl).any (by intro u hu; rw [List.mem_singleton.1 hu]; rfl) (by omega) (by have := R.out.2.2.size; simp; omega) rfl rfl ?_; intro A2 c2 w2 o2 g2 hat2)
   go_roundg (n - (j + 1))
   case measure => have := R.out.1; omega
   case rel =>
    refine ⟨j + 1, A2, c2, rfl, by omega, rfl, by go_num, ?_, (R.out.2.2.alloc R.out.2.2.size _).grown g2 (by have := R.out.2.2.size; simp; omega) (fun q hq => (own_lt R.out.2.1 q hq).1)⟩
    rw [confN_snoc]
    have e : ii (confN j ++ [(j : Int) + 1]) = ii (confN j) ++ [.int .i64 ((j : Int) + 1)] := by simp [ii]
    rw [e]
    exact o2
  ·have hjI : decide ((j : Int) < (n : Int)) = false := decide_eq_false (by omega)
   have hjN : decide (j < n) = false := decide_eq_false hlt
   obtain rfl : j = n := by omega
   have R2 := Lib.hid (And.intro R.out.2.1 R.out.2.2)
   clear R hlt hjI hjN hj
   rename World => wa
   go_wp2_with fail
   go_loopg [10, 11, 12] j (fun gm s10 s11 s12 w2 => ∃ (i : Nat) (U : Nat → Prop) (p : Nat → Nat) (V : Nat → Nat → Prop) (C : Nat → Cr) (m : Nat → Mb) (cells : Array Value), gm = j - i ∧ i ≤ j ∧ s10 = .int .i64 i ∧
    Gr w.heap.size w2 U i p V C m (w.heap.size + 1) 4 cells none 0 0 [] (fun b => b = w.heap.size) (fun _ => []) (List.replicate 200 0) ∧ (∀ q, q < i → C q = Cr.new ((q : Int) + 1) 4 (q : Int) (st0 j)) ∧ (∀ b, U b → w.heap.size ≤ b ∧ b < w2.heap.size) ∧ Kept (· = w.heap.size + 1) wa w2)
   case atStart => exact ⟨0, _, _, _, _, _, _, by omega, by omega, rfl, K.out.1.below R2.out.2, fun q hq => by omega, fun b hb => by have := R2.out.2.size; have := K.out.2.2; rcases hb with rfl | rfl <;> omega, Kept.refl _ _⟩
   case round =>
    obtain ⟨i, U, p, V, C, m, cells, hm, hi, rfl, G, hC, hU, hk⟩ := hrel
    have Q := Lib.hid (And.intro hm (And.intro G (And.intro hC (And.intro hU hk))))
    clear hm G hC hU hk
    by_cases hlt : i < j
    ·have hjI : decide ((i : Int) < (j : Int)) = true := decide_eq_true (by omega)
     have hjN : decide (i < j) = true := decide_eq_true hlt
     have hjw : IntKind.i64.wrap ((i : Int) + 1) = (i : Int) + 1 := by rw [IntKind.wrap_i64]; omega
     have h0i : (0 : Int) ≤ (i : Int) := by omega
     have hi7 : (i : Int) < 7 := by have := H.out.2.1; omega
     obtain ⟨s', hs'⟩ : ∃ s' : Sv, s' = ⟨0, 0, 0, 0, none, 0, 0, [], A, j, c, confN j, none, 0, 0, []⟩ := ⟨_, rfl⟩
     have hcr : Rd wr T 1 A j (ii (confN j)) := (Q.out.2.2.2.2.rd (ok := fun b => b ≠ w.heap.size + 1) ((Rd.of_own R2.out.1).mono fun b hb => by have := K.out.2.2; omega) fun b hb e => hb e).any
     have hat : s'.At wr T := by subst hs'; exact ⟨Rd.none_, (fun y hy => by cases hy), hcr, Rd.none_, ⟨Nat.le_refl _, by simp [maxLen]⟩, own_cp R2.out.1, ⟨Nat.le_refl _, by simp [maxLen]⟩⟩
     have hfit : s'.Fit := by subst hs'; exact ⟨by show I64 0 ∧ I64 0 ∧ I64 0 ∧ I64 0; unfold I64; omega, (fun y hy => by cases hy), by show 0 ≤ 1000000 ∧ j ≤ 1000000 ∧ 0 ≤ 100000000; have := H.out.2.1; omega⟩
     have hst : s'.st = st0 j := by subst hs'; rfl
     have hval : s'.val = .agg #[.int .i64 0, .int .i64 0, .int .i64 0, .int .i64 0, .slice none 0 0, .slice A j c, .slice none 0 0] := by subst hs'; rfl
     have S := Lib.hid (And.intro hat (And.intro hfit (And.intro hst hval)))
     clear hcr hat hfit hst hval hs'
     go_wp2_with fail
     rw [← S.out.2.2.2]
     refine (new_ok ((i : Int) + 1) 4 (i : Int) s' wr S.out.1 S.out.2.1 Q.out.2.1.en.ev (by omega) (by have := H.out.2.1; omega) (by decide) (by decide)).mono ?_
     intro e w4 h4
     unfold NewPost at h4
     rw [S.out.2.2.1, if_pos (st0_may H.out.2.1)] at h4
     obtain ⟨x, s4, rfl, n1, n2, n3, n4, n5, n6⟩ := h4
     have hx := CX.ofNewU (U := U) Q.out.2.1.en.le (fun b hb => (Q.out.2.2.2.1 b hb).2) n6.size n1 n2 n3 n4 n5
     have hG := Q.out.2.1.more (fun b hb => (Q.out.2.2.2.1 b hb).2) (by have := H.out.2.1; omega) n6 hx fun b hb => by rcases hb with rfl | rfl <;> omega
     have hgl := (Q.out.2.1.bx.below n6).lt
     have hgb := (Q.out.2.1.bx.below n6)
     have cgi := (hgb.c i).trans (Q.out.2.1.ptr i (by have := H.out.2.1; omega))
     have fgi := hgb.f i
     have N4 := Lib.hid (And.intro hG (And.intro n6 (And.intro n4 n1.lt)))
     clear hG hx n1 n2 n3 n4 n5 n6 hgb hgl
     go_wp2_with fail
     go_roundg (j - (i + 1))
     case measure => have := Q.out.1; omega
     case rel =>
      refine ⟨i + 1, _, _, _, _, _, _, rfl, by omega, by go_num, N4.out.1, fun q hq => ?_, fun b hb => ?_, (Q.out.2.2.2.2.trans (Kept.of_new N4.out.2.1) fun b _ h => h).trans (V := (· = w.heap.size + 1)) (kset (Kept.refl _ _) _) fun b _ h => h⟩
      ·by_cases e : q = i
       ·subst e; rw [upd_self]
       ·rw [upd_ne e]; exact Q.out.2.2.1 q (by omega)
      ·have h8 : (w4.setCell ⟨w.heap.size + 1, i, none⟩ (.pointer (some ⟨x + 1, 0, none⟩))).heap.size = w4.heap.size := by simp [World.setCell]
       have h7 := N4.out.2.1.size
       have h6 := N4.out.2.2.1
       have h5 := N4.out.2.2.2
       have hww : w.heap.size ≤ wr.heap.size := Q.out.2.1.en.le
       rw [h8]
       rcases hb with hb | hb
       ·have := Q.out.2.2.2.1 b hb; omega
       ·rcases hb with rfl | rfl <;> omega
    ·have hjI : decide ((i : Int) < (j : Int)) = false := decide_eq_false (by omega)
     have hjN : decide (i < j) = false := decide_eq_false hlt
     obtain rfl : i = j := by omega
     go_wp2_with fail
     go_ret
     have hw2 : Below w.heap.size w wr := (K.out.2.1.trans (R2.out.2.mono K.out.2.1.size)).trans (Q.out.2.2.2.2.below (fun b hb => by rw [hb]; omega) (by have := R2.out.2.size; have := K.out.2.2; omega))
     refine ⟨w.heap.size + 1, p, ⟨C, [], fun _ => [], List.replicate 200 0⟩, rfl, ⟨U, V, m, cells, none, 0, 0, [], _, _, Q.out.2.1, rfl, fun k _ => rfl, fun b hb => ⟨fun h9 => ?_, Nat.lt_of_lt_of_le hb hw2.size⟩⟩, ⟨Q.out.2.2.1, rfl, fun _ _ => rfl, rfl⟩, hw2⟩
     have := (Q.out.2.2.2.1 b h9).1
     have hb : b < w.heap.size := hb
     omega
def GrX (fb : Nat) (W : World) (n gb : Nat) (span : Int) (p : Nat → Nat) (g : Gs) (F : Nat → Prop) (x : Mr) (z : Nat) : Prop := ∃ U V m cells N nn cn NX X D, Gr fb W U n p V g.C m gb span cells N nn cn NX X D g.leads ∧ NX.map Mr.ms = g.net ∧ (∀ k, k < 7 → (D k).map en = g.done k) ∧ x.At W (fun b => ¬ U b) ∧ x.ne ≤ 16 ∧ ¬ U z ∧ ∀ b, F b → ¬ U b ∧ b < W.heap.size
theorem GrX.is {fb : Nat} {W : World} {n gb : Nat} {span : Int} {p : Nat → Nat} {g : Gs} {F : Nat → Prop} {x : Mr} {z : Nat} (h : GrX fb W n gb span p g F x z) : GrIs fb W n gb span p g F := by
 obtain ⟨U, V, m, cells, N, nn, cn, NX, X, D, a, b, c, _, _, _, d⟩ := h
 exact ⟨U, V, m, cells, N, nn, cn, NX, X, D, a, b, c, d⟩
def HearsPost (fb : Nat) (w : World) (n gb : Nat) (span : Int) (p : Nat → Nat) (F : Nat → Prop) (r : Int → Gs) (e : Ending) (w' : World) : Prop := e = .returned (.tuple #[]) ∧ ∃ j, GrIs fb w' n gb span p (r j) F ∧ KeepF F w w'
set_option maxHeartbeats 12800000 in
theorem hears_any {fb n gb : Nat} {span : Int} {p : Nat → Nat} {w : World} {g : Gs} {F : Nat → Prop} {k : Nat} (at_ : Int) (stays : Bool) (draw : Int) (h : GrIs fb w n gb span p g F) (ho : ∀ i, i < n → (g.C i).Ok k) (hk : k + 1 ≤ 1000000) (hn : 1 ≤ n ∧ n ≤ 7) :
  Calls Tryz.prog 32 #[.pointer (some ⟨gb, 0, none⟩), .int .i64 at_, .bool stays, .int .i64 draw] w (HearsPost fb w n gb span p F (fun j => g.hears n at_ stays draw j)) := by
 obtain ⟨U, V, m, cells, N, nn, cn, NX, X, D, G, hnet, hdone, hF⟩ := h
 have c8 : w.cell? ⟨gb, 8, none⟩ = some (.slice N nn cn) := (G.bx.c 8).trans G.net
 have hlen : NX.length = nn := (Rd.of_own G.ow).flen mcell_len (by omega)
 have hnn := G.few
 obtain ⟨R, hR⟩ : ∃ R : Int → Gs, (fun j => g.hears n at_ stays draw j) = R := ⟨_, rfl⟩
 rw [hR]
 have HR := Lib.hid hR
 have H := Lib.hid (And.intro G (And.intro hnet (And.intro hlen (And.intro ho (And.intro hk (And.intro hn (And.intro hdone hF)))))))
 clear hR hnet hlen ho hk hn hdone hF
 go_enter Tryz.func32, Tryz.ntmps32
 by_cases h0 : nn = 0
 ·subst h0
  have hz : (((0 : Nat) : Int) == 0) = true := rfl
  have hem : NX = [] := List.eq_nil_of_length_eq_zero H.out.2.2.1
  have hgn : g.net = [] := by rw [← H.out.2.1, hem]; rfl
  have E1 := Lib.hid (show g.hears n at_ stays draw 0 = g by unfold Gs.hears; rw [hgn]; rfl)
  clear hem hgn G
  go_wp2_with fail
  first
   | refine bodyPost_ret (results_none rfl _ _ _) (by rfl) ?_
   | refine bodyPost_end (results_none rfl _ _ _) (by rfl) ?_
  refine ⟨rfl, 0, ?_, .refl _ _⟩
  rw [← HR.out]
  show GrIs fb w n gb span p (g.hears n at_ stays draw 0) F
  rw [E1.out]
  exact ⟨U, V, m, cells, N, 0, cn, NX, X, D, H.out.1, H.out.2.1, H.out.2.2.2.2.2.2⟩
 ·obtain ⟨i, hi, wn, ht, wi⟩ := umod_n at_ (n := nn) (by omega) (by omega)
  have hz : ((nn : Int) == 0) = false := by simpa using h0
  obtain ⟨b, o, x, rfl, hbo, hbl, hx, hc⟩ := (Rd.of_own G.ow).fat mcell_len (by omega) hi
  have hrg : w.rangeAt b (o + i * 12) (mcell x) := fun q v hv => by rw [Nat.add_assoc]; exact hc q v hv
  have hpl : g.place at_ = i := by
   unfold Gs.place
   have e1 : g.net.length = nn := by rw [← H.out.2.1, List.length_map]; exact H.out.2.2.1
   rw [e1, ht]
   simp
  have hgx : g.net[g.place at_]? = some x.ms := by rw [hpl, ← H.out.2.1, List.getElem?_map, hx]; rfl
  have Hrg := Lib.hid hrg
  have XX := Lib.hid (And.intro hx (And.intro hpl hgx))
  have hi0 : (i : Int) < (nn : Int) := by omega
  have h0i : (0 : Int) ≤ (i : Int) := by omega
  have HT := Lib.hid ht
  clear hx hc hrg hpl hgx hbo hbl G
  unfold mcell at Hrg
  go_upto_region 2 with (fail)
  refine wp_region_lit ?_
  refine BigFrame.wpList_want (by rfl) (fun K hK => ?_)
  go_simp
  refine hK _ _ ?_
  clear hK K
  try simp only [Act.put, lyA, lyB, lyC]
  refine BigFrame.wpList_want (by rfl) (fun K hK => ?_)
  go_simp
  refine hK _ _ ?_
  clear hK K
  try simp only [Act.put, lyA, lyB, lyC]
  refine BigFrame.wpList_want (by rfl) (fun K hK => ?_)
  go_simp
  refine hK _ _ ?_
  clear hK K
  try simp only [Act.put, lyA, lyB, lyC]
  refine BigFrame.wpList_want (by rfl) (fun K hK => ?_)
  go_simp
  refine hK _ _ ?_
  clear hK K
  try simp only [Act.put, lyA, lyB, lyC]
  refine BigFrame.wpList_want (by rfl) (fun K hK => ?_)
  go_simp
  refine hK _ _ ?_
  clear hK K
  try simp only [Act.put, lyA, lyB, lyC]
  refine BigFrame.wpList_want (by rfl) (fun K hK => ?_)
  go_simp
  refine hK _ _ ?_
  clear hK K
  try simp only [Act.put, lyA, lyB, lyC]
  refine wpList_load_mid rfl _ _ rfl _ _ rfl _ _ Hrg.out Tryz.underlying78 rfl (by kernel_rfl) ?_
  go_upto_region 3 with (fail)
  obtain ⟨W1, hW1⟩ : ∃ W1, W1 = w.alloc (.cells x.cells 78) := ⟨_, rfl⟩
  have z1 : Bx W1 w.heap.size x.cells := by subst hW1; exact Bx.new _ _ _ rfl
  have hb1 : Below w.heap.size w W1 := by subst hW1; exact (Below.refl _ _).alloc (Nat.le_refl _) _
  have HW1 := hW1
  unfold Mr.cells at HW1
  rw [← HW1]
  clear HW1 hW1
  have K1 := Lib.hid (And.intro z1 hb1)
  clear z1 hb1 c8
  obtain ⟨g1, hg1⟩ : ∃ g1 : Gs, (if stays then g else { g with net := g.net.take (g.place at_) ++ g.net.drop (g.place at_ + 1) } : Gs) = g1 := ⟨_, rfl⟩
  have HG1 := Lib.hid hg1
  clear hg1
  go_upto_if 35 with (fail)
  have hxne : x.ne ≤ 16 := by
   have h9 := H.out.1.at_ x (List.mem_of_getElem? XX.out.1)
   have h8 := h9.1.e.flen ecell_len (by omega)
   have h7 : (x.L.map en).length ≤ 16 := h9.2
   rw [List.length_map] at h7
   omega
  have HX := Lib.hid hxne
  clear hxne
  go_cut [10] (fun _ W => GrX fb W n gb span p g1 F x w.heap.size ∧ Kept (· = gb) W1 W)
  case first =>
   cases stays with
   | true =>
    go_wp2_with fail
    go_meet
    case rel =>
     have e1 : g = g1 := HG1.out
     exact ⟨by rw [← e1]; exact ⟨U, V, m, cells, _, nn, cn, NX, X, D, H.out.1.below K1.out.2, H.out.2.1, H.out.2.2.2.2.2.2.1, ((H.out.1.at_ x (List.mem_of_getElem? XX.out.1)).1.below K1.out.2), HX.out, fun h9 => by have := (H.out.1.gx.cx 0 (by have := H.out.2.2.2.2.2.1; omega)).ul _ h9; omega, fun b hb => ⟨(H.out.2.2.2.2.2.2.2 b hb).1, Nat.lt_of_lt_of_le (H.out.2.2.2.2.2.2.2 b hb).2 K1.out.2.size⟩⟩, Kept.refl _ _⟩
   | false =>
    have F5 : Hid (∀ W, Below W1.heap.size W1 W → W.cell? ⟨gb, 8, none⟩ = some (.slice (some ⟨b, o, none⟩) nn cn)) := Lib.hid fun W hb => (((H.out.1.bx.below K1.out.2).below hb).c 8).trans H.out.1.net
    have hcp := own_cp H.out.1.ow
    have hcp1 := hcp.1
    have hcp2 := hcp.2
    have hj0 : ¬ ((i : Int) < 0) := by omega
    have hjc : i ≤ cn := by omega
    have hjd : decide ((i : Int) < 0) = false := by simp
    have hjw : IntKind.i64.wrap ((i : Int) + 1) = (i : Int) + 1 := by rw [IntKind.wrap_i64]; omega
    obtain ⟨ad, had⟩ : ∃ ad, ad = (if cn = i + 1 then (some ⟨b, o, none⟩ : Option Addr) else (some (⟨b, o, none⟩ : Addr)).map (·.add ((i + 1) * 12))) := ⟨_, rfl⟩
    have e9 : ∀ W, (Instr.sliceAt 54 (.slice (some ⟨b, o, none⟩) nn cn) (some (.int .i64 ((i : Int) + 1))) none none).run Tryz.prog W = .ok (.slice ad (nn - (i + 1)) (cn - (i + 1))) W := by
     intro W
     have := run_slice_lo (P := Tryz.prog) 54 Tryz.underlying54 (size := 12) (by kernel_rfl) (some ⟨b, o, none⟩) nn cn W (i + 1) (by omega)
     rw [← had] at this
     exact this
    have hr1 : Rd W1 (fun _ => True) 12 (some ⟨b, o, none⟩) i (flat mcell (NX.take i)) := by
     have h9 := ((Rd.of_own H.out.1.ow).below K1.out.2).any.take (k := i) (by omega)
     rw [← flat_take mcell_len] at h9
     exact h9
    have hr2 : Rd W1 (fun _ => True) 12 ad (nn - (i + 1)) (flat mcell (NX.drop (i + 1))) := by
     have h9 := ((Rd.of_own H.out.1.ow).below K1.out.2).any.cut (k := i + 1) (cap := cn) (by omega) (by omega)
     rw [← had, ← flat_drop mcell_len] at h9
     exact h9
    have HR2 := Lib.hid (And.intro hr1 hr2)
    clear hr1 hr2 had
    clear hcp
    go_upto_region 5 with (fail)
    refine wp_region_S 19 (fun W => Below W1.heap.size W1 W) (.take 0 (.take 1 (.take 2 (.take 3 (.take 4 (.take 5 (.take 6 (.take 7 (.take 9 (.take 10 (.take 11 (.take 12 (.take 13 (.take 14 (.take 15 (.one 8 (.one 16 (.take 17 (.take 18 (.one 19 (.nil))))))))))))))))))))) (by kernel_rfl) (Below.refl _ _).drew (fun _ _ _ _ h => h) (fun hS => ?_)
    repeat (first
     | (refine wpS_take (v := ?_) rfl rfl (by rfl) ?_ ?_; rotate_left; (intro W hW; have hf := F5.out W hW; go_split_ands; go_simp; try with_reducible rfl); try simp only [Act.put, lyA, lyB, lyC])
     | (refine wpS_skip rfl rfl (by rfl) ?_; try simp only [Act.put, lyA, lyB, lyC]))
    refine wpS_one rfl (by rfl) (fun K hK => ?_)
    refine wp_append_any W1.drew Tryz.underlying54 msg_elem rfl (by omega) rfl rfl (World.ownsRow_nil _ W1.heap.size _ _) rfl HR2.out.1.drew (mcell_one _) (by omega) (Nat.le_refl _) (k := i) (Nat.zero_add i) (ys := flat mcell (NX.take i)) (List.nil_append _) ?_
    intro A1 c1 w2 o1 g1 hat1
    have hb2 : Below W1.heap.size W1 w2 := ((Below.refl _ _).drew).grown g1 (Nat.le_refl _) (by simp)
    have O1 := Lib.hid (And.intro o1 hb2)
    refine hK (fun W => Below W1.heap.size W1 W) _ _ (fun _ h => h) hb2 ?_
    clear hK K hS o1 g1 hat1 hb2
    try simp only [Act.put, lyA, lyB, lyC]
    refine wpS_one rfl (by rfl) (fun K hK => ?_)
    refine wp_append_any w2 Tryz.underlying54 msg_elem rfl (by omega) rfl rfl O1.out.1 rfl (HR2.out.2.below O1.out.2) (mcell_one _) (by omega) O1.out.2.size (k := nn - 1) (by omega) (ys := flat mcell (NX.take i ++ NX.drop (i + 1))) (flat_append _ _).symm ?_
    intro A2 c2 w3 o2 g2 hat2
    have hb3 : Below W1.heap.size W1 w3 := O1.out.2.grown g2 O1.out.2.size (fun q hq => (own_lt O1.out.1 q hq).1)
    have O2 := Lib.hid (And.intro o2 hb3)
    have p8 := F5.out w3 hb3
    have q8 := ((H.out.1.bx.below K1.out.2).below hb3).f 8
    refine hK (fun W => Below W1.heap.size W1 W) _ _ (fun _ h => h) hb3 ?_
    clear hK K o2 g2 hat2 hb3
    try simp only [Act.put, lyA, lyB, lyC]
    repeat (first
     | (refine wpS_take (v := ?_) rfl rfl (by rfl) ?_ ?_; rotate_left; (intro W hW; have hf := F5.out W hW; go_split_ands; go_simp; try with_reducible rfl); try simp only [Act.put, lyA, lyB, lyC])
     | (refine wpS_skip rfl rfl (by rfl) ?_; try simp only [Act.put, lyA, lyB, lyC]))
    refine wpS_last rfl (by rfl) (fun K hK => ?_)
    go_simp
    refine hK _ _ ?_
    clear hK K
    try simp only [Act.put, lyA, lyB, lyC]
    refine wpS_nil ?_
    obtain ⟨W3, hW3⟩ : ∃ W3, W3 = w3.setCell ⟨gb, 8, none⟩ (.slice A2 (nn - 1) c2) := ⟨_, rfl⟩
    rw [← hW3]
    have HW3 := Lib.hid hW3
    clear hW3 p8 q8
    go_wp2_with fail
    go_meet
    case rel =>
     have kg : Kept (· = gb) w3 W3 := by rw [HW3.out]; exact kset (Kept.refl _ _) _
     have hb3 := O2.out.2
     have k3 : Kept (· = gb) W1 W3 := (Kept.of_new hb3).trans kg fun b _ h => h
     have G1 := H.out.1.below K1.out.2
     have bx3 : Bx W3 gb (cells.setIfInBounds 8 (.slice A2 (nn - 1) c2)) := by rw [HW3.out]; exact (G1.bx.below hb3).set 8 _
     have ow3 : W3.ownsRow 0 78 12 (.slice A2 (nn - 1 : Nat) c2) (nn - 1) (flat mcell (NX.take i ++ NX.drop (i + 1))) := own_mono (kg.own O2.out.1 fun b hb e => by have := (own_lt O2.out.1 b hb).1; have := G1.bx.lt; omega) (Nat.zero_le _)
     have G3 := G1.less (NX' := NX.take i ++ NX.drop (i + 1)) (fun x hx => (List.mem_append.1 hx).elim List.mem_of_mem_take List.mem_of_mem_drop) bx3 (GbTo.set ⟨G1.net, fun _ _ => rfl⟩) ow3 (by omega) k3 (fun b hb => (own_lt O2.out.1 b hb).1) G1.en.le
     have e1 : ({ g with net := g.net.take (g.place at_) ++ g.net.drop (g.place at_ + 1) } : Gs) = g1 := HG1.out
     refine ⟨?_, k3⟩
     rw [← e1]
     refine ⟨_, V, m, _, A2, nn - 1, c2, _, X, D, G3, ?_, H.out.2.2.2.2.2.2.1, ((G1.at_ x (List.mem_of_getElem? XX.out.1)).1.lt.keep fun b hb hl => k3.block b hl (fun e => hb.1 (e ▸ G1.gu.1))).mono fun b hb e => e.elim hb.1 (fun e => by have := (own_lt O2.out.1 b e).1; have := hb.2; omega), HX.out, fun h9 => h9.elim (fun h9 => by have := (H.out.1.gx.cx 0 (by have := H.out.2.2.2.2.2.1; omega)).ul _ h9; omega) (fun h9 => by have := (own_lt O2.out.1 _ h9).1; have := K1.out.1.lt; omega), fun b hb => ⟨fun h9 => h9.elim (H.out.2.2.2.2.2.2.2 b hb).1 (fun h9 => by have := (own_lt O2.out.1 _ h9).1; have := (H.out.2.2.2.2.2.2.2 b hb).2; have := K1.out.2.size; omega), Nat.lt_of_lt_of_le (H.out.2.2.2.2.2.2.2 b hb).2 (Nat.le_trans K1.out.2.size k3.size)⟩⟩
     show (NX.take i ++ NX.drop (i + 1)).map Mr.ms = g.net.take (g.place at_) ++ g.net.drop (g.place at_ + 1)
     rw [XX.out.2.1, ← H.out.2.1, List.map_append, List.map_take, List.map_drop]
  case rest =>
   have hE : Hid (∀ j, R j = if 1 ≤ x.ms.dst ∧ x.ms.dst ≤ 7 ∧ (x.ms.dst - 1).toNat < n then g1.steps (x.ms.dst - 1).toNat x.ms draw j else g1) := Lib.hid fun j => by
    rw [← HR.out]
    show g.hears n at_ stays draw j = _
    unfold Gs.hears
    rw [XX.out.2.2]
    dsimp only
    rw [HG1.out]
   have HC := Lib.hid hcut
   clear hcut
   have e1 : g1.C = g.C := by rw [← HG1.out]; split <;> rfl
   have HE1 := Lib.hid e1
   clear e1
   have z2 : Bx wc w.heap.size x.cells := HC.out.2.bx K1.out.1 (fun e => by have := H.out.1.bx.lt; omega)
   have Z2 := Lib.hid z2
   have HK0 : Hid (KeepF F w wc) := Lib.hid ⟨HC.out.2.os.trans K1.out.2.os, HC.out.2.tape.trans K1.out.2.tape, HC.out.2.output.trans K1.out.2.output, Nat.le_trans K1.out.2.size HC.out.2.size, fun b hb => by
    obtain ⟨h1, h2⟩ := H.out.2.2.2.2.2.2.2 b hb
    rw [HC.out.2.block b (Nat.lt_of_lt_of_le h2 K1.out.2.size) (fun e => h1 (e ▸ H.out.1.gu.1))]
    exact K1.out.2.block b h2⟩
   clear z2
   by_cases hno : 1 ≤ x.dst ∧ x.dst ≤ 7 ∧ (x.dst - 1).toNat < n
   ·obtain ⟨q, hq⟩ : ∃ q : Nat, x.dst = (q : Int) + 1 := ⟨(x.dst - 1).toNat, by omega⟩
    have HNO : Hid (1 ≤ x.ms.dst ∧ x.ms.dst ≤ 7 ∧ (x.ms.dst - 1).toNat < n) := Lib.hid hno
    have HQ : Hid (q < n ∧ q < 7 ∧ (x.ms.dst - 1).toNat = q) := Lib.hid ⟨by omega, by omega, by show (x.dst - 1).toNat = q; omega⟩
    have hd1 : decide (1 ≤ x.dst) = true := decide_eq_true (by omega)
    have hd2 : decide (x.dst ≤ 7) = true := decide_eq_true (by omega)
    have hq0 : (0 : Int) ≤ (q : Int) := by omega
    have hq7 : (q : Int) < 7 := by omega
    have hqw : IntKind.i64.wrap (x.dst - 1) = (q : Int) := by rw [IntKind.wrap_i64]; omega
    have hHq := Lib.hid hq
    clear hq hno
    have hg : GrX fb wc n gb span p g1 F x w.heap.size := HC.out.1
    obtain ⟨U2, V2, m2, cells2, N2, nn2, cn2, NX2, X2, D2, G2, hnet2, hdone2, hxat, hxne, hxz, hF2⟩ := hg
    have HG := Lib.hid (And.intro G2 (And.intro hnet2 (And.intro hdone2 (And.intro hxat (And.intro hxne (And.intro hxz hF2))))))
    clear G2 hnet2 hdone2 hxat hxne hxz hF2
    have F6 : Hid (∀ W, Below wc.heap.size wc W → W.cell? ⟨w.heap.size, 2, none⟩ = some (.int .i64 x.dst) ∧ W.cell? ⟨gb, q, none⟩ = some (.pointer (some ⟨p q, 0, none⟩))) := Lib.hid fun W hb => ⟨(Z2.out.below hb).c 2, ((HG.out.1.bx.below hb).c q).trans ((HG.out.1.ptr q HQ.out.2.1).trans (by rw [if_pos HQ.out.1]))⟩
    go_upto_region 6 with (fail)
    refine wp_region_S 18 (fun W => Below wc.heap.size wc W) (.take 0 (.take 1 (.take 2 (.take 3 (.take 4 (.take 5 (.take 6 (.take 7 (.take 8 (.take 9 (.take 10 (.take 11 (.take 12 (.take 13 (.take 14 (.take 15 (.take 16 (.take 17 (.one 18 (.nil)))))))))))))))))))) (by kernel_rfl) (Below.refl _ _).drew (fun _ _ _ _ h => h) (fun hS => ?_)
    repeat (first
     | (refine wpS_take (v := ?_) rfl rfl (by rfl) ?_ ?_; rotate_left; (intro W hW; have hf := F6.out W hW; go_split_ands; go_simp; try with_reducible rfl); try simp only [Act.put, lyA, lyB, lyC])
     | (refine wpS_skip rfl rfl (by rfl) ?_; try simp only [Act.put, lyA, lyB, lyC]))
    refine wpS_last rfl (by rfl) (fun K hK => ?_)
    go_simp
    refine hK _ _ ?_
    clear hK K
    try simp only [Act.put, lyA, lyB, lyC]
    refine wpS_nil ?_
    go_upto_region 7 with (fail)
    have hzV : ¬ V2 q w.heap.size := fun h9 => HG.out.2.2.2.2.2.1 ((HG.out.1.gx.cx q HQ.out.1).vu _ h9)
    have hgV : ¬ V2 q gb := HG.out.1.gu.2.2 q HQ.out.1
    have F7 : Hid (∀ W, Kept (V2 q) wc W → W.cell? ⟨w.heap.size, 2, none⟩ = some (.int .i64 x.dst) ∧ W.cell? ⟨gb, q, none⟩ = some (.pointer (some ⟨p q, 0, none⟩))) := Lib.hid fun W hb => ⟨(hb.bx Z2.out hzV).c 2, ((hb.bx HG.out.1.bx hgV).c q).trans ((HG.out.1.ptr q HQ.out.2.1).trans (by rw [if_pos HQ.out.1]))⟩
    have F8 : Hid (∀ W, Kept (V2 q) wc W → W.rangeAt w.heap.size 0 (mcell x)) := Lib.hid fun W hb u v hv => by
     have h9 := (hb.bx Z2.out hzV).c u
     rw [Nat.zero_add, h9]
     show (mcell x).toArray[u]? = some v
     simpa using hv
    unfold mcell at F8
    clear hzV hgV
    refine wp_region_S 12 (fun W => Kept (V2 q) wc W) (.take 0 (.take 1 (.take 2 (.take 3 (.take 4 (.take 5 (.take 6 (.take 7 (.take 8 (.take 9 (.take 10 (.one 11 (.one 12 (.nil)))))))))))))) (by kernel_rfl) ((Kept.refl _ _).drew).drew (fun _ _ _ _ h => h) (fun hS => ?_)
    iterate 9 (first
     | (refine wpS_take (v := ?_) rfl rfl (by rfl) ?_ ?_; rotate_left; (intro W hW; have hf := F7.out W hW; go_split_ands; go_simp; try with_reducible rfl); try simp only [Act.put, lyA, lyB, lyC])
     | (refine wpS_skip rfl rfl (by rfl) ?_; try simp only [Act.put, lyA, lyB, lyC]))
    refine wpS_take rfl rfl (by rfl) (fun W hW => ld_whole _ _ rfl _ _ rfl _ _ (F8.out W hW) Tryz.underlying78 rfl (by kernel_rfl)) ?_
    try simp only [Act.put, lyA, lyB, lyC]
    repeat (first
     | (refine wpS_take (v := ?_) rfl rfl (by rfl) ?_ ?_; rotate_left; (intro W hW; have hf := F7.out W hW; go_split_ands; go_simp; try with_reducible rfl); try simp only [Act.put, lyA, lyB, lyC])
     | (refine wpS_skip rfl rfl (by rfl) ?_; try simp only [Act.put, lyA, lyB, lyC]))
    refine wpS_one rfl (by rfl) (fun K hK => ?_)
    go_simp
    have hB7 : Below wc.heap.size wc wc.drew.drew := ((Below.refl _ _).drew).drew
    go_at_call 27
    refine (stepG_any x draw ((HG.out.1.below hB7).gx.cx q HQ.out.1) (by rw [HE1.out]; exact H.out.2.2.2.1 q HQ.out.1) H.out.2.2.2.2.1 (HG.out.1.below hB7).en (HG.out.2.2.2.1.below hB7) (by have := HG.out.2.2.2.2.1; omega)).mono ?_
    rintro e w1 ⟨j, A, n', c', Y, V', U', m', rfl, rm, hms, hat, cto⟩
    have TA := Lib.hid (tells_after (HG.out.1.below hB7) HG.out.2.1 HG.out.2.2.1 (F := F) (fun b hb => ⟨(HG.out.2.2.2.2.2.2 b hb).1, Nat.lt_of_lt_of_le (HG.out.2.2.2.2.2.2 b hb).2 hB7.size⟩) HQ.out.1 (step_few (g1.C q) x.ms draw j) (step_many (C := g1.C q) (by rw [HE1.out]; exact (H.out.2.2.2.1 q HQ.out.1).cf) x.ms draw j) rm hms hat cto)
    refine hK (fun W => W = w1) _ _ (fun W hW => by rw [hW]; exact hS.trans cto.kept fun b _ h => h) rfl ?_
    clear hK K hS hB7 hms rm hat cto
    try simp only [Act.put, lyA, lyB, lyC]
    refine wpS_last rfl (by rfl) (fun K hK => ?_)
    go_simp
    go_at_call 31
    refine TA.out.mono ?_
    rintro e w2 ⟨rfl, hgr, hkf⟩
    refine hK _ _ ?_
    clear hK K
    try simp only [Act.put, lyA, lyB, lyC]
    refine wpS_nil ?_
    have HT4 := Lib.hid (And.intro hgr hkf)
    clear hgr hkf
    go_wp2_with fail
    refine bodyPost_end (results_none rfl _ _ _) (by rfl) ?_
    refine ⟨rfl, j, ?_, (⟨HK0.out.os, HK0.out.tape, HK0.out.output, HK0.out.size, HK0.out.block⟩ : KeepF F w wc.drew.drew).trans HT4.out.2⟩
    rw [hE.out j, if_pos HNO.out, HQ.out.2.2]
    exact HT4.out.1
   ·have HNO : Hid (¬ (1 ≤ x.ms.dst ∧ x.ms.dst ≤ 7 ∧ (x.ms.dst - 1).toNat < n)) := Lib.hid hno
    have F6 : Hid (∀ W, Below wc.heap.size wc W → W.cell? ⟨w.heap.size, 2, none⟩ = some (.int .i64 x.dst)) := Lib.hid fun W hb => (Z2.out.below hb).c 2
    by_cases h1 : 1 ≤ x.dst
    ·have hd1 : decide (1 ≤ x.dst) = true := decide_eq_true h1
     by_cases h7 : x.dst ≤ 7
     ·have hd2 : decide (x.dst ≤ 7) = true := decide_eq_true h7
      obtain ⟨q, hq⟩ : ∃ q : Nat, x.dst = (q : Int) + 1 := ⟨(x.dst - 1).toNat, by omega⟩
      have hq0 : (0 : Int) ≤ (q : Int) := by omega
      have hq7 : (q : Int) < 7 := by omega
      have hqw : IntKind.i64.wrap (x.dst - 1) = (q : Int) := by rw [IntKind.wrap_i64]; omega
      have hqn : ¬ q < n := fun h9 => hno ⟨h1, h7, by omega⟩
      have hHq := Lib.hid hq
      have HQN := Lib.hid hqn
      clear hq hno h1 h7 hqn
      have hg : GrX fb wc n gb span p g1 F x w.heap.size := HC.out.1
      obtain ⟨U2, V2, m2, cells2, N2, nn2, cn2, NX2, X2, D2, G2, hnet2, hdone2, hxat, hxne, hxz, hF2⟩ := hg
      have F6 : Hid (∀ W, Below wc.heap.size wc W → W.cell? ⟨w.heap.size, 2, none⟩ = some (.int .i64 x.dst) ∧ W.cell? ⟨gb, q, none⟩ = some (.pointer none)) := Lib.hid fun W hb => ⟨(Z2.out.below hb).c 2, ((G2.bx.below hb).c q).trans ((G2.ptr q (by omega)).trans (by rw [if_neg HQN.out]))⟩
      clear G2 hnet2 hdone2 hxat hxne hxz hF2
      go_upto_region 6 with (fail)
      refine wp_region_S 18 (fun W => Below wc.heap.size wc W) (.take 0 (.take 1 (.take 2 (.take 3 (.take 4 (.take 5 (.take 6 (.take 7 (.take 8 (.take 9 (.take 10 (.take 11 (.take 12 (.take 13 (.take 14 (.take 15 (.take 16 (.take 17 (.one 18 (.nil)))))))))))))))))))) (by kernel_rfl) (Below.refl _ _).drew (fun _ _ _ _ h => h) (fun hS => ?_)
      repeat (first
       | (refine wpS_take (v := ?_) rfl rfl (by rfl) ?_ ?_; rotate_left; (intro W hW; have hf := F6.out W hW; go_split_ands; go_simp; try with_reducible rfl); try simp only [Act.put, lyA, lyB, lyC])
       | (refine wpS_skip rfl rfl (by rfl) ?_; try simp only [Act.put, lyA, lyB, lyC]))
      refine wpS_last rfl (by rfl) (fun K hK => ?_)
      go_simp
      refine hK _ _ ?_
      clear hK K
      try simp only [Act.put, lyA, lyB, lyC]
      refine wpS_nil ?_
      go_wp2_with fail
      refine bodyPost_end (results_none rfl _ _ _) (by rfl) ?_
      refine ⟨rfl, 0, ?_, ⟨HK0.out.os, HK0.out.tape, HK0.out.output, HK0.out.size, HK0.out.block⟩⟩
      rw [hE.out 0, if_neg HNO.out]
      exact HC.out.1.is.below ((Below.refl _ _).drew)
     ·have hd2 : decide (x.dst ≤ 7) = false := decide_eq_false h7
      clear hno h1 h7
      go_upto_region 6 with (fail)
      refine wp_region_S 18 (fun W => Below wc.heap.size wc W) (.take 0 (.take 1 (.take 2 (.take 3 (.take 4 (.take 5 (.take 6 (.take 7 (.take 8 (.take 9 (.take 10 (.take 11 (.take 12 (.take 13 (.take 14 (.take 15 (.take 16 (.take 17 (.one 18 (.nil)))))))))))))))))))) (by kernel_rfl) (Below.refl _ _).drew (fun _ _ _ _ h => h) (fun hS => ?_)
      repeat (first
       | (refine wpS_take (v := ?_) rfl rfl (by rfl) ?_ ?_; rotate_left; (intro W hW; have hf := F6.out W hW; go_split_ands; go_simp; try with_reducible rfl); try simp only [Act.put, lyA, lyB, lyC])
       | (refine wpS_skip rfl rfl (by rfl) ?_; try simp only [Act.put, lyA, lyB, lyC]))
      refine wpS_last rfl (by rfl) (fun K hK => ?_)
      go_simp
      refine hK _ _ ?_
      clear hK K
      try simp only [Act.put, lyA, lyB, lyC]
      refine wpS_nil ?_
      go_wp2_with fail
      refine bodyPost_end (results_none rfl _ _ _) (by rfl) ?_
      refine ⟨rfl, 0, ?_, ⟨HK0.out.os, HK0.out.tape, HK0.out.output, HK0.out.size, HK0.out.block⟩⟩
      rw [hE.out 0, if_neg HNO.out]
      exact HC.out.1.is.below ((Below.refl _ _).drew)
    ·have hd1 : decide (1 ≤ x.dst) = false := decide_eq_false h1
     clear hno h1
     go_upto_region 6 with (fail)
     refine wp_region_S 18 (fun W => Below wc.heap.size wc W) (.take 0 (.take 1 (.take 2 (.take 3 (.take 4 (.take 5 (.take 6 (.take 7 (.take 8 (.take 9 (.take 10 (.take 11 (.take 12 (.take 13 (.take 14 (.take 15 (.take 16 (.take 17 (.one 18 (.nil)))))))))))))))))))) (by kernel_rfl) (Below.refl _ _).drew (fun _ _ _ _ h => h) (fun hS => ?_)
     repeat (first
      | (refine wpS_take (v := ?_) rfl rfl (by rfl) ?_ ?_; rotate_left; (intro W hW; have hf := F6.out W hW; go_split_ands; go_simp; try with_reducible rfl); try simp only [Act.put, lyA, lyB, lyC])
      | (refine wpS_skip rfl rfl (by rfl) ?_; try simp only [Act.put, lyA, lyB, lyC]))
     refine wpS_last rfl (by rfl) (fun K hK => ?_)
     go_simp
     refine hK _ _ ?_
     clear hK K
     try simp only [Act.put, lyA, lyB, lyC]
     refine wpS_nil ?_
     go_wp2_with fail
     refine bodyPost_end (results_none rfl _ _ _) (by rfl) ?_
     refine ⟨rfl, 0, ?_, ⟨HK0.out.os, HK0.out.tape, HK0.out.output, HK0.out.size, HK0.out.block⟩⟩
     rw [hE.out 0, if_neg HNO.out]
     exact HC.out.1.is.below ((Below.refl _ _).drew)
end Go.Proofs.YtmhaahcbmdhinaaGreatDoor
namespace Go.Proofs.YtmhaahcbmdhinaaGreatDoor
set_option linter.unusedVariables false
set_option linter.unusedSimpArgs false
structure Hist where
 ll : Int → List En
 led : Int → Option (Int × List En)
 gv : Int → Int → Option (Int × List En)
 ak : Int → Int → Nat
 com : Nat → Int → Nat → Prop
structure Mems where
 cnf : List En → List Int
 maj : List Int → (Int → Prop) → Prop
 near : List Int → List Int → Prop
 meet : ∀ c c' Q Q', (c = c' ∨ near c c' ∨ near c' c) → maj c Q → maj c' Q' → ∃ v, Q v ∧ Q' v
 plain : ∀ (L : List En) (d : Nat), (∀ k x, d ≤ k → L[k]? = some x → x.c ≠ 2) → cnf L = cnf (L.take d)
def lastT (L : List En) : Int := (L.getLast?.map En.b).getD 0
def UpTo (L Lv : List En) : Prop := lastT Lv < lastT L ∨ lastT Lv = lastT L ∧ Lv.length ≤ L.length
def Good (H : Hist) (L : List En) : Prop := ∀ (k : Nat) (x : En), L[k]? = some x → (H.led x.b).isSome = true ∧ L.take (k + 1) = (H.ll x.b).take (k + 1)
def Held (H : Hist) (S : Int → Prop) (t : Int) (n : Nat) (Lv : List En) : Prop := (H.ll t).take n <+: Lv ∨ ∃ t' c' L', t < t' ∧ S t' ∧ H.led t' = some (c', L') ∧ ¬ (H.ll t).take n <+: L'
structure CandS (M : Mems) (H : Hist) (S : Int → Prop) (U i : Int) (L : List En) : Prop where
 good : Good H L
 low : ∀ x ∈ L, x.b < U
 vote : ∃ Q, M.maj (M.cnf L) Q ∧ ∀ v, Q v → ∃ Lv, H.gv v U = some (i, Lv) ∧ UpTo L Lv ∧ Good H Lv ∧ ∀ t n, t < U → n ≤ H.ak v t → Held H S t n Lv
def Behind (H : Hist) (L : List En) (i : Nat) (r : Int) (n' m' : Nat) : Prop := H.com n' r m' ∧ n' ≤ i ∧ ∀ j y, j < i → L[j]? = some y → y.c = 2 → j < n'
structure Hin (M : Mems) (H : Hist) : Prop where
 none_ : ∀ t, H.led t = none → H.ll t = []
 pos : ∀ t p, H.led t = some p → 1 ≤ t
 led1 : ∀ t i L0, H.led t = some (i, L0) → L0 <+: H.ll t
 led2 : ∀ t i L0, H.led t = some (i, L0) → ∀ k x, L0.length ≤ k → (H.ll t)[k]? = some x → x.b = t
 good : ∀ t, Good H (H.ll t)
 cand : ∀ t i L0, H.led t = some (i, L0) → CandS M H (· < t) t i L0
 com1 : ∀ n t m, H.com n t m → 0 < n ∧ n ≤ m ∧ m ≤ (H.ll t).length ∧ ∃ x, (H.ll t)[n - 1]? = some x ∧ x.b = t
 com2 : ∀ n t m, H.com n t m → ∃ Q, M.maj (M.cnf ((H.ll t).take m)) Q ∧ ∀ v, Q v → n ≤ H.ak v t
 com3 : ∀ n t m, H.com n t m → ∀ i x, i < m → (H.ll t)[i]? = some x → x.c = 2 → ∃ n' m', Behind H (H.ll t) i x.b n' m' ∧ n' < n
 conf : ∀ t i x, (H.ll t)[i]? = some x → x.c = 2 → (∃ n' m', Behind H (H.ll t) i x.b n' m') ∧ M.near (M.cnf ((H.ll t).take i)) (M.cnf ((H.ll t).take (i + 1)))
 ack : ∀ v t, H.ak v t ≤ (H.ll t).length
section
variable {M : Mems} {H : Hist}
end
end Go.Proofs.YtmhaahcbmdhinaaGreatDoor
