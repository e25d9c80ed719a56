/- Walk: what is to be kept is laid down: (*stable.Keeper).lay. (Printed by mklay.py.) -/
import Derived.Test.YtlecglmiigdjlaaGreatDoorZb21
namespace Go.Proofs.YtlecglmiigdjlaaGreatDoor
open Go.RowKit
set_option maxRecDepth 100000
set_option linter.unusedVariables false
set_option linter.unusedSimpArgs false
variable {fb : Nat}
def Kp.tape (K : Kp) (o : Bool) : Tp := if o = true then K.t1 else K.t0
def Kp.whole (K : Kp) (o : Bool) : Int := if o = true then K.w1 else K.w0
def Kp.put (K : Kp) (o : Bool) (t : Tp) : Kp := if o = true then { K with t1 := t } else { K with t0 := t }
/-- Behind the laying of a record on tape o. -/
def Kp.laid (K : Kp) (o : Bool) (r : Tp × Dk × Int) (s : St) : Kp × Dk × Int :=
  if r.2.2 = 0 then ({ K.put o r.1 with dead := 0, n := K.n + 1, now := s, on := o }, r.2.1, 0) else ({ K.put o r.1 with dead := r.2.2 }, r.2.1, r.2.2)
def Kp.over (K : Kp) (o : Bool) (r : Tp × Dk × Int) (b : List UInt8) (s : St) : Kp × Dk × Int :=
  if r.2.2 = 0 then Kp.laid { K.put o r.1 with dead := 0 } o (r.1.append r.2.1 b) s else ({ K.put o r.1 with dead := r.2.2 }, r.2.1, r.2.2)
def Kp.lay (K : Kp) (D : Dk) (s : St) : Kp × Dk × Int :=
  if ((stL ((K.n : Nat) + 1 : Int) s).length : Int) ≤ (K.tape K.on).room then K.laid K.on ((K.tape K.on).append D (stL ((K.n : Nat) + 1 : Int) s)) s
  else if K.whole (!K.on) < ((stL ((K.n : Nat) + 1 : Int) s).length : Int) then (K, D, 10)
  else K.over (!K.on) ((K.tape (!K.on)).reset D) (stL ((K.n : Nat) + 1 : Int) s) s
/-- Behind an act of a keeper's. -/
def KAft (fb : Nat) (W : World) (L : Nat → Prop) (k g t0 t1 : Nat) (K : Kp) (z : Sv) (D : Dk) (sz : Nat) (w' : World) : Prop :=
  ∃ L', KX fb w' L' k g t0 t1 K z D sz ∧ (∀ b, L' b → L b ∨ W.heap.size ≤ b) ∧ Kept (fun b => L b ∨ b = t0 ∨ b = t1 ∨ b = k) W w'
section
variable {W W' W2 w' : World} {L : Nat → Prop} {k g t0 t1 : Nat} {K : Kp} {z s : Sv} {D D' : Dk} {sz : Nat} {t' : Tp}
theorem KAft.of (h : KX fb W L k g t0 t1 K z D sz) (hb : Below W.heap.size W W') : KAft fb W L k g t0 t1 K z D sz W' := ⟨L, h.below hb, fun _ h => .inl h, Kept.of_new hb⟩
theorem KAft.below (h : KAft fb W L k g t0 t1 K z D sz W') (hb : Below W'.heap.size W' W2) : KAft fb W L k g t0 t1 K z D sz W2 := by
  obtain ⟨L', h1, h2, h3⟩ := h
  exact ⟨L', h1.below hb, h2, h3.trans (V := fun _ => False) (Kept.of_new hb) fun _ _ h => h.elim⟩
theorem KAft.s0 {L' : Nat → Prop} (h1 : KX fb W' L' k g t0 t1 K z D sz) (h2 : ∀ b, L' b → L b ∨ W.heap.size ≤ b) (h3 : Kept (fun b => L b ∨ b = t0 ∨ b = t1 ∨ b = k) W W') (ha : AftT W' L' t0 g t' D' sz W2) : KAft fb W L k g t0 t1 { K with t0 := t' } z D' sz W2 := by
  obtain ⟨L2, k1, k2, k3⟩ := h1.step0 ha
  refine ⟨L2, k1, fun b hb => (k2 b hb).elim (h2 b) fun h4 => .inr (Nat.le_trans h3.size h4), h3.trans k3 fun b hb hu => ?_⟩
  rcases hu with hu | hu
  · rcases h2 b hu with h4 | h4
    · exact .inl h4
    · omega
  · exact .inr (.inl hu)
theorem KAft.s1 {L' : Nat → Prop} (h1 : KX fb W' L' k g t0 t1 K z D sz) (h2 : ∀ b, L' b → L b ∨ W.heap.size ≤ b) (h3 : Kept (fun b => L b ∨ b = t0 ∨ b = t1 ∨ b = k) W W') (ha : AftT W' L' t1 g t' D' sz W2) : KAft fb W L k g t0 t1 { K with t1 := t' } z D' sz W2 := by
  obtain ⟨L2, k1, k2, k3⟩ := h1.step1 ha
  refine ⟨L2, k1, fun b hb => (k2 b hb).elim (h2 b) fun h4 => .inr (Nat.le_trans h3.size h4), h3.trans k3 fun b hb hu => ?_⟩
  rcases hu with hu | hu
  · rcases h2 b hu with h4 | h4
    · exact .inl h4
    · omega
  · exact .inr (.inr (.inl hu))
/-- Behind the last stores. -/
theorem KAft.fin (h : KAft fb W L k g t0 t1 K z D sz W') (hb : Below W'.heap.size W' W2) (z' : Sv) (hz : z'.At W2 (W'.heap.size ≤ ·)) (hf : z'.Fit) (m : Nat) (o : Bool) (hs : z'.st = s.st) :
    KAft fb W L k g t0 t1 { K with n := m, now := s.st, on := o } z' D sz (((((((((W2.setCell ⟨k, 5, none⟩ (.int .i64 (m : Nat))).setCell ⟨k, 6, none⟩ (.int .i64 z'.tm)).setCell ⟨k, 7, none⟩ (.int .i64 z'.vt)).setCell ⟨k, 8, none⟩ (.int .i64 z'.b)).setCell ⟨k, 9, none⟩ (.int .i64 z'.t)).setCell ⟨k, 10, none⟩ (.slice z'.A z'.n z'.c)).setCell ⟨k, 11, none⟩ (.slice z'.C z'.nc z'.cc)).setCell ⟨k, 12, none⟩ (.slice z'.S z'.ns z'.cs)).setCell ⟨k, 4, none⟩ (.int .i64 (onI o))) := by
  obtain ⟨L', g1, h2, g3⟩ := h
  have h1 := g1.below hb
  have h3 : Kept (fun b => L b ∨ b = t0 ∨ b = t1 ∨ b = k) W W2 := g3.trans (V := fun _ => False) (Kept.of_new hb) fun _ _ h => h.elim
  have hx : z'.At W2 (fun b => ¬ L' b ∧ b ≠ t0 ∧ b ≠ t1 ∧ b ≠ k ∧ b ≠ fb) := hz.mono fun b hbb => ⟨fun hl => by have := g1.dx.lt b hl; omega, fun e => by have := g1.b0.lt; omega, fun e => by have := g1.b1.lt; omega, fun e => by have := g1.kb.lt; omega, fun e => by have := g1.flt; omega⟩
  rw [← hs]
  refine ⟨L', h1.fin z' hx hf m o, h2, ?_⟩
  iterate 9 refine Kept.set ?_ (.inr (.inr (.inr rfl))) _
  exact h3
theorem KAft.dead_ (h : KAft fb W L k g t0 t1 K z D sz W') (e : Int) : KAft fb W L k g t0 t1 { K with dead := e } z D sz (W'.setCell ⟨k, 13, none⟩ (errD e)) := by
  obtain ⟨L', h1, h2, h3⟩ := h
  exact ⟨L', h1.dead_ e, h2, h3.set (p := ⟨k, 13, none⟩) (.inr (.inr (.inr rfl))) _⟩
/-- What was there apart from the keeper is as it was. -/
theorem KAft.arg (h : KAft fb W L k g t0 t1 K z D sz W') {ok : Nat → Prop} (hs : s.At W ok) (hok : ∀ b, ok b → ¬ L b ∧ b ≠ t0 ∧ b ≠ t1 ∧ b ≠ k) : s.At W' ok := by
  obtain ⟨L', h1, h2, h3⟩ := h
  exact hs.keep fun b hb hl => h3.block b hl fun hu => by
    obtain ⟨q1, q2, q3, q4⟩ := hok b hb
    rcases hu with h | h | h | h
    · exact q1 h
    · exact q2 h
    · exact q3 h
    · exact q4 h
theorem KAft.bx (h : KAft fb W L k g t0 t1 K z D sz W') {f : Nat} {cs : Array Value} (hs : Bx W f cs) (hf : ¬ L f ∧ f ≠ t0 ∧ f ≠ t1 ∧ f ≠ k) : Bx W' f cs := by
  obtain ⟨L', h1, h2, h3⟩ := h
  exact h3.bx hs fun hu => by
    obtain ⟨q1, q2, q3, q4⟩ := hf
    rcases hu with h | h | h | h
    · exact q1 h
    · exact q2 h
    · exact q3 h
    · exact q4 h
theorem KAft.up (hb : Below W.heap.size W W') (h : KAft fb W' L k g t0 t1 K z D sz w') : KAft fb W L k g t0 t1 K z D sz w' := by
  obtain ⟨L', h1, h2, h3⟩ := h
  exact ⟨L', h1, fun b hb' => (h2 b hb').elim .inl fun h4 => .inr (Nat.le_trans hb.size h4), (Kept.of_new hb).trans h3 fun _ _ h => h⟩
end
def LayP (fb : Nat) (W : World) (L : Nat → Prop) (k g t0 t1 : Nat) (r : Kp × Dk × Int) (sz : Nat) (e : Ending) (w' : World) : Prop := e = .returned (errD r.2.2) ∧ ∃ z', KAft fb W L k g t0 t1 r.1 z' r.2.1 sz w'
theorem reset_q (t : Tp) (D : Dk) : (t.reset D).2.1.q.length ≤ D.q.length + 1 := by
  unfold Tp.reset
  split
  · exact Nat.le_succ _
  · split <;> exact safely_q _ _ _
end Go.Proofs.YtlecglmiigdjlaaGreatDoor
