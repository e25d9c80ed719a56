/- The law StableSafe: a keeper on a disk that is armed, goes down, and is started again.
   Walks: the law's entries at any two lists, told exactly. (Printed by mkentsa.py.)
   Walks: the law's sameLog, sameStored, told exactly.
   append, at the greatest sizes that a machine holds. -/
import Derived.Test.YtlecglmiigdjlaaGreatDoorZa29
import Derived.Test.YtlecglmiigdjlaaGreatDoorZa20
import Derived.Test.YtlecglmiigdjlaaGreatDoorZa35
import Derived.Test.YtlecglmiigdjlaaGreatDoorZa14
import Derived.Test.YtlecglmiigdjlaaGreatDoorZa11
import Derived.Test.YtlecglmiigdjlaaGreatDoorZa12
import Derived.Test.YtlecglmiigdjlaaGreatDoorZa0
namespace Go.Proofs.YtlecglmiigdjlaaGreatDoor
open Go.RowKit
set_option maxRecDepth 100000
set_option linter.unusedVariables false
set_option linter.unusedSimpArgs false
section
variable {w W W1 w' : World} {g nb lb sz kb t0 t1 fb : Nat} {K K1 : Kp} {D D' : Dk} {y z s : Sv} {L : Nat → Prop} {e : Ending}
/-- What an act of the disk alone makes of a keeper. -/
theorem KX.aftJ (h : KX fb W L kb g t0 t1 K z D sz) (ha : Aft W L g D' sz w') : ∃ L', KX fb w' L' kb g t0 t1 K z D' sz ∧ (∀ b, L' b → L b ∨ W.heap.size ≤ b) ∧ Kept L W w' := by
  obtain ⟨L', h1, h2, h3⟩ := ha
  have q0 := h.b0.lt
  have q1 := h.b1.lt
  have qk := h.kb.lt
  refine ⟨L', ⟨h1, h3.bx h.b0 h.n0, h3.bx h.b1 h.n1, h.o0, h.o1, h3.bx h.kb h.nk, ?_, h.st, h.fit, fun hu => ?_, fun hu => ?_, fun hu => ?_, h.d01, h.k0, h.k1, Nat.lt_of_lt_of_le h.flt h3.size⟩, h2, h3⟩
  · exact (h.at_.lt.keep fun b hb hl => h3.block b hl hb.1.1).mono fun b hb => ⟨fun hu => (h2 b hu).elim hb.1.1 fun h9 => by have := hb.2; omega, hb.1.2⟩
  · exact (h2 _ hu).elim h.n0 fun h9 => by omega
  · exact (h2 _ hu).elim h.n1 fun h9 => by omega
  · exact (h2 _ hu).elim h.nk fun h9 => by omega
/-- A keeper, whatever its disk is like; y lies in what came in, or in a block lb of the law's own. -/
structure SafD (w W : World) (g nb lb sz kb : Nat) (K : Kp) (D : Dk) (y : Sv) : Prop where
  ex : ∃ L t0 t1 z, KX nb W L kb g t0 t1 K z D sz ∧ (∀ b, L b → w.heap.size ≤ b) ∧ w.heap.size ≤ t0 ∧ w.heap.size ≤ t1 ∧ (¬ L nb ∧ ¬ L lb) ∧ (nb ≠ t0 ∧ lb ≠ t0) ∧ (nb ≠ t1 ∧ lb ≠ t1)
  k0 : w.heap.size ≤ kb
  nk : nb ≠ kb
  lk : lb ≠ kb
  nl : lb ≠ nb
  ll : lb < W.heap.size
  bx : Bx W nb y.cells
  b0 : w.heap.size ≤ nb
  y1 : y.At W (fun b => b < w.heap.size ∨ b = lb)
  y2 : y.Fit
  be : Below w.heap.size w W
/-- A keeper that is as its disk. -/
structure SafI (w W : World) (g nb lb sz kb : Nat) (K : Kp) (D : Dk) (y : Sv) : Prop where
  d : SafD w W g nb lb sz kb K D y
  inv : KInv sz K D
  n1 : 1 ≤ K.n
theorem SafD.i (h : SafD w W g nb lb sz kb K D y) (hi : KInv sz K D) (hn : 1 ≤ K.n) : SafI w W g nb lb sz kb K D y := ⟨h, hi, hn⟩
theorem SafD.below (h : SafD w W g nb lb sz kb K D y) (hb : Below W.heap.size W W1) : SafD w W1 g nb lb sz kb K D y := by
  obtain ⟨L, t0, t1, z, h1, h2⟩ := h.ex
  exact ⟨⟨L, t0, t1, z, h1.below hb, h2⟩, h.k0, h.nk, h.lk, h.nl, Nat.lt_of_lt_of_le h.ll hb.size, h.bx.below hb, h.b0, h.y1.below hb, h.y2, h.be.trans (hb.mono h.be.size)⟩
theorem SafI.below (h : SafI w W g nb lb sz kb K D y) (hb : Below W.heap.size W W1) : SafI w W1 g nb lb sz kb K D y := ⟨h.d.below hb, h.inv, h.n1⟩
theorem SafD.next (h : SafD w W g nb lb sz kb K D y) {L : Nat → Prop} {t0 t1 : Nat} {z' : Sv} {K' : Kp} {D' : Dk} (hb : Below W.heap.size W W1) (h2 : ∀ b, L b → w.heap.size ≤ b) (h3 : w.heap.size ≤ t0) (h4 : w.heap.size ≤ t1) (h5 : ¬ L nb ∧ ¬ L lb) (h6 : nb ≠ t0 ∧ lb ≠ t0) (h7 : nb ≠ t1 ∧ lb ≠ t1)
    (hk : KAft nb W1 L kb g t0 t1 K' z' D' sz w') : SafD w w' g nb lb sz kb K' D' y := by
  obtain ⟨L2, k1, k2, k3⟩ := hk
  have hz := h.be.size
  have hz1 := hb.size
  have hlt := (h.bx.below hb).lt
  have hll := h.ll
  have hk0 := h.k0
  have hfar : ¬ (fun b => L b ∨ b = t0 ∨ b = t1 ∨ b = kb) nb := fun hu => by
    rcases hu with hu | hu | hu | hu
    · exact h5.1 hu
    · exact h6.1 hu
    · exact h7.1 hu
    · exact h.nk hu
  have hfar2 : ∀ b, (b < w.heap.size ∨ b = lb) → ¬ (fun b => L b ∨ b = t0 ∨ b = t1 ∨ b = kb) b := fun b hb hu => by
    rcases hb with hb | rfl
    · rcases hu with hu | hu | hu | hu
      · have := h2 b hu; omega
      · omega
      · omega
      · omega
    · rcases hu with hu | hu | hu | hu
      · exact h5.2 hu
      · exact h6.2 hu
      · exact h7.2 hu
      · exact h.lk hu
  have hb1 := h.be.trans (hb.mono h.be.size)
  refine ⟨⟨L2, t0, t1, z', k1, fun b hb' => (k2 b hb').elim (h2 b) fun h9 => by omega, h3, h4, ⟨fun hu => (k2 nb hu).elim h5.1 fun h9 => by omega, fun hu => (k2 lb hu).elim h5.2 fun h9 => by omega⟩, h6, h7⟩, h.k0, h.nk, h.lk, h.nl, by have := k3.size; omega, k3.bx (h.bx.below hb) hfar, h.b0, (h.y1.below hb).keep (fun b hb _ => k3.block b ‹_› (hfar2 b hb)), h.y2, hb1.trans (k3.below (B := w.heap.size) (fun b hu => ?_) hb1.size)⟩
  rcases hu with hu | hu | hu | hu
  · exact h2 b hu
  · omega
  · omega
  · omega
theorem SafI.start (hx : KX fb W L kb g t0 t1 K z D sz) (hi : KInv sz K D) (hn : 1 ≤ K.n) (hl : ∀ b, L b → w.heap.size ≤ b) (hk : w.heap.size ≤ kb) (h0 : w.heap.size ≤ t0) (h1 : w.heap.size ≤ t1) (hbe : Below w.heap.size w W) {cs : Array Value} {tt : TypeId} (y1 : y.At (W.alloc (.cells cs tt)) (W.heap.size ≤ ·)) (y2 : y.Fit) :
    SafI w ((W.alloc (.cells cs tt)).alloc (.cells y.cells 50)) g (W.heap.size + 1) W.heap.size sz kb K D y := by
  have hb0 : Below W.heap.size W (W.alloc (.cells cs tt)) := (Below.refl _ _).alloc (Nat.le_refl _) _
  have hz : (W.alloc (.cells cs tt)).heap.size = W.heap.size + 1 := by simp
  have hb : Below (W.alloc (.cells cs tt)).heap.size (W.alloc (.cells cs tt)) ((W.alloc (.cells cs tt)).alloc (.cells y.cells 50)) := (Below.refl _ _).alloc (Nat.le_refl _) _
  have hbb := hb0.trans (hb.mono hb0.size)
  have q1 := hx.dx.lt
  have q2 := hx.b0.lt
  have q3 := hx.b1.lt
  have q4 := hx.kb.lt
  have hr := (hx.below hb0).refb hb (by simp)
  rw [hz] at hr
  have hbn : Bx ((W.alloc (.cells cs tt)).alloc (.cells y.cells 50)) (W.heap.size + 1) y.cells := Bx.new _ _ _ hz.symm
  refine ⟨⟨⟨L, t0, t1, z, hr, hl, h0, h1, ⟨fun h => by have := q1 _ h; omega, fun h => by have := q1 _ h; omega⟩, ⟨by omega, by omega⟩, ⟨by omega, by omega⟩⟩, hk, by omega, by omega, by omega, by simp; omega, hbn, by have := hbe.size; omega, (y1.lt.below hb).mono fun b hb => ?_, y2, hbe.trans (hbb.mono hbe.size)⟩, hi, hn⟩
  have h8 : W.heap.size ≤ b := hb.1
  have h9 := hb.2
  rw [hz] at h9
  exact .inr (by omega)
theorem SafI.put (h : SafI w W g nb lb sz kb K D y) (s1 : s.At w T) (s2 : s.Fit) :
    SafI w (((((((W.setCell ⟨nb, 0, none⟩ (.int .i64 s.tm)).setCell ⟨nb, 1, none⟩ (.int .i64 s.vt)).setCell ⟨nb, 2, none⟩ (.int .i64 s.b)).setCell ⟨nb, 3, none⟩ (.int .i64 s.t)).setCell ⟨nb, 4, none⟩ (.slice s.A s.n s.c)).setCell ⟨nb, 5, none⟩ (.slice s.C s.nc s.cc)).setCell ⟨nb, 6, none⟩ (.slice s.S s.ns s.cs)) g nb lb sz kb K D s := by
  obtain ⟨L, t0, t1, z, h1, h2, h3, h4, h5, h6, h7⟩ := h.d.ex
  have hbx := h.d.bx
  unfold Sv.cells at hbx
  have hb0 := h.d.b0
  have hbe : Below w.heap.size w (((((((W.setCell ⟨nb, 0, none⟩ (.int .i64 s.tm)).setCell ⟨nb, 1, none⟩ (.int .i64 s.vt)).setCell ⟨nb, 2, none⟩ (.int .i64 s.b)).setCell ⟨nb, 3, none⟩ (.int .i64 s.t)).setCell ⟨nb, 4, none⟩ (.slice s.A s.n s.c)).setCell ⟨nb, 5, none⟩ (.slice s.C s.nc s.cc)).setCell ⟨nb, 6, none⟩ (.slice s.S s.ns s.cs)) :=
    (((((((h.d.be.setCell (p := ⟨nb, 0, none⟩) hb0 _).setCell (p := ⟨nb, 1, none⟩) hb0 _).setCell (p := ⟨nb, 2, none⟩) hb0 _).setCell (p := ⟨nb, 3, none⟩) hb0 _).setCell (p := ⟨nb, 4, none⟩) hb0 _).setCell (p := ⟨nb, 5, none⟩) hb0 _).setCell (p := ⟨nb, 6, none⟩) hb0 _)
  refine ⟨⟨⟨L, t0, t1, z, h1.put h5.1 h6.1 h7.1 h.d.nk _ _ _ _ _ _ _, h2, h3, h4, h5, h6, h7⟩, h.d.k0, h.d.nk, h.d.lk, h.d.nl, by rw [size7z]; exact h.d.ll, hbx.set7z _ _ _ _ _ _ _, h.d.b0, ?_, s2, hbe⟩, h.inv, h.n1⟩
  exact (s1.lt.below hbe).mono fun b hb => .inl hb.2
theorem SafI.load (h : SafI w W g nb lb sz kb K D y) : Calls Tryz.prog 9 #[.pointer (some ⟨kb, 0, none⟩)] W (LoadPost W K.now) := by
  obtain ⟨L, t0, t1, z, h1, -⟩ := h.d.ex
  refine load_any W h1 ?_
  have hm := (h.inv.cur h.n1).1
  rw [← h1.st] at hm
  exact (St.may_iff hm).1
theorem SafD.disk (h : SafD w W g nb lb sz kb K D y) (hb : Below W.heap.size W W1) {L : Nat → Prop} {t0 t1 : Nat} (hx : KX nb W L kb g t0 t1 K z D sz) (h2 : ∀ b, L b → w.heap.size ≤ b) (h3 : w.heap.size ≤ t0) (h4 : w.heap.size ≤ t1) (h5 : ¬ L nb ∧ ¬ L lb) (h6 : nb ≠ t0 ∧ lb ≠ t0) (h7 : nb ≠ t1 ∧ lb ≠ t1)
    (ha : Aft W1 L g D' sz w') : SafD w w' g nb lb sz kb K D' y := by
  obtain ⟨L', q1, q2, q3⟩ := (hx.below hb).aftJ ha
  exact h.next hb h2 h3 h4 h5 h6 h7 ⟨L', q1, q2, q3.trans (V := fun _ => False) (Kept.refl _ _) (fun _ _ h => h.elim) |> fun q => ⟨q.os, q.tape, q.output, q.size, fun i hi hu => q.block i hi fun hl => hu (.inl hl)⟩⟩
theorem SafD.down (h : SafD w W g nb lb sz kb K D y) : Calls Tryz.prog 24 #[.pointer (some ⟨g, 0, none⟩)] W (fun e w' => e = .returned (.bool D.off) ∧ w' = W) := by
  obtain ⟨L, t0, t1, z, h1, -⟩ := h.ex
  exact down_any W h1.dx
theorem KInv.armedJ (h : KInv sz K D) {n : Int} (h0 : 0 ≤ n) (h1 : n ≤ 100) : KInv sz K (D.arm n).1 := by
  have e : (D.arm n).1 = { D with armed := n + 1 } := by unfold Dk.arm; rw [if_neg (by omega), if_pos (by omega)]
  rw [e]
  refine h.of ⟨⟨h.calm.ok.safe, h.calm.ok.fit, h.calm.ok.now, by dsimp only; omega, by dsimp only; omega⟩, h.calm.off, h.calm.q⟩ fun o r hr => ⟨hr.rc, hr.n, hr.dead, hr.fr, hr.en⟩
theorem SafI.arm (h : SafI w W g nb lb sz kb K D y) {n : Int} (h0 : 0 ≤ n) (hn : n ≤ 100) :
    Calls Tryz.prog 23 #[.pointer (some ⟨g, 0, none⟩), .int .i64 n] W (fun e w' => e = .returned .nilIface ∧ SafI w w' g nb lb sz kb K (D.arm n).1 y) := by
  obtain ⟨L, t0, t1, z, h1, h2, h3, h4, h5, h6, h7⟩ := h.d.ex
  refine (arm_any n W h1.dx (by unfold I64; omega)).mono ?_
  rintro e w' ⟨rfl, ha⟩
  have e2 : (D.arm n).2 = 0 := by unfold Dk.arm; rw [if_neg (by omega)]
  refine ⟨by rw [e2]; rfl, ?_⟩
  exact (h.d.disk (Below.refl _ _) h1 h2 h3 h4 h5 h6 h7 ha).i (h.inv.armedJ h0 hn) h.n1
theorem SafD.start (h : SafD w W g nb lb sz kb K D y) (A : Option Addr) (n c : Nat) (keep : List Int) (hb : Below W.heap.size W W1) (hr : Rd W1 T 1 A n (ii keep)) (hk : ∀ x ∈ keep, I64 x) (hq : D.q.length ≤ 100000) :
    Calls Tryz.prog 25 #[.pointer (some ⟨g, 0, none⟩), .slice A n c] W1 (fun e w' => e = .returned (.tuple #[]) ∧ SafD w w' g nb lb sz kb K (D.started keep) y) := by
  obtain ⟨L, t0, t1, z, h1, h2, h3, h4, h5, h6, h7⟩ := h.ex
  refine (start_any A n c keep W1 (h1.dx.below hb) hr hk hq).mono ?_
  rintro e w' ⟨rfl, ha⟩
  exact ⟨rfl, h.disk hb h1 h2 h3 h4 h5 h6 h7 ha⟩
/-- What comes of a save on a disk that may be armed. -/
def SfA (w : World) (g nb lb sz kb : Nat) (K : Kp) (s : St) (y : Sv) (e : Ending) (w' : World) : Prop :=
  (∃ c K' D', e = .returned (errD c) ∧ (c = 0 ∧ K'.now = s ∨ c = 10 ∧ K'.now = K.now) ∧ D'.off = false ∧ K'.n ≤ K.n + 1 ∧ SafI w w' g nb lb sz kb K' D' y) ∨
  (∃ K' D', e = .returned (errD 13) ∧ K'.dead = 13 ∧ K'.n ≤ 1000000000 ∧ Lost sz K s D' ∧ SafD w w' g nb lb sz kb K' D' y)
theorem laid_nJ (K : Kp) (o : Bool) (r : Tp × Dk × Int) (s : St) : (K.laid o r s).1.n ≤ K.n + 1 := by
  have pn := (put_rest K o r.1).2.2.2.1
  unfold Kp.laid
  split <;> dsimp only <;> omega
theorem over_nJ (K : Kp) (o : Bool) (r : Tp × Dk × Int) (b : List UInt8) (s : St) : (K.over o r b s).1.n ≤ K.n + 1 := by
  have pn := (put_rest K o r.1).2.2.2.1
  unfold Kp.over
  split
  · refine Nat.le_trans (laid_nJ _ _ _ _) ?_
    dsimp only
    omega
  · dsimp only
    omega
theorem save_nJ (K : Kp) (D : Dk) (s : St) : (K.save D s).1.n ≤ K.n + 1 := by
  unfold Kp.save
  split
  · exact Nat.le_succ _
  split
  · exact Nat.le_succ _
  split
  · have pn := fun (o : Bool) (t : Tp) => (put_rest K o t).2.2.2.1
    have ln := fun (K : Kp) (o : Bool) (r : Tp × Dk × Int) => laid_nJ K o r s
    unfold Kp.lay
    split
    · exact ln _ _ _
    split
    · exact Nat.le_succ _
    · exact over_nJ _ _ _ _ _
  · exact Nat.le_succ _
theorem SafI.saveA (h : SafI w W g nb lb sz kb K D y) (s : Sv) (hb : Below W.heap.size W W1) (hs : s.At W1 (W.heap.size ≤ ·)) (hf : s.Fit) (hm : s.st.may = true) (htab : TabW W1) (hev : EvW W1 W1.heap.size) (hsz : 20 ≤ sz) (hn : K.n ≤ 1000)
    (hbl : s.st.may = true → (stL ((K.n : Nat) + 1 : Int) s.st).length ≤ 1048576 ∧ s.st.sn.length ≤ 1048576) :
    Calls Tryz.prog 7 #[.pointer (some ⟨kb, 0, none⟩), s.val] W1 (SfA w g nb lb sz kb K s.st y) := by
  obtain ⟨L, t0, t1, z, h1, h2, h3, h4, h5, h6, h7⟩ := h.d.ex
  have hx := h1.below hb
  have hs' : s.At W1 (fun b => ¬ L b ∧ b ≠ t0 ∧ b ≠ t1 ∧ b ≠ kb) := hs.mono fun b hx => ⟨fun hl => by have := h1.dx.lt b hl; omega, fun e => by have := h1.b0.lt; omega, fun e => by have := h1.b1.lt; omega, fun e => by have := h1.kb.lt; omega⟩
  refine (save_any W1 hx s hs' hf htab hev (by omega) (by rw [h.inv.calm.q]; exact Nat.zero_le _)).mono ?_
  intro e w' hp
  obtain ⟨rfl, z', hk⟩ := hp
  have hsn := save_nJ K D s.st
  rcases h.inv.save_ (s := s.st) hsz hbl (by omega) with ⟨h8, h9⟩ | ⟨h8, h10, h9⟩ | ⟨h8, h10, h9, h11⟩ | ⟨h8, h10, K', D', h9, h11, h12, h13, h14⟩ | ⟨h8, h10, h11, K', D', h9, h12, h13⟩
  · rw [h9] at hk ⊢
    exact .inl ⟨0, K, D, rfl, .inl ⟨rfl, h8.symm⟩, h.inv.calm.off, by omega, (h.d.next hb h2 h3 h4 h5 h6 h7 hk).i h.inv h.n1⟩
  · rw [hm] at h10
    cases h10
  · rw [h9] at hk ⊢
    exact .inl ⟨10, K, D, rfl, .inr ⟨rfl, rfl⟩, h.inv.calm.off, by omega, (h.d.next hb h2 h3 h4 h5 h6 h7 hk).i h.inv h.n1⟩
  · rw [h9] at hk ⊢
    exact .inl ⟨0, K', D', rfl, .inl ⟨rfl, h13⟩, h11.calm.off, by omega, (h.d.next hb h2 h3 h4 h5 h6 h7 hk).i h11 (by rw [h12]; exact Nat.le_add_left 1 _)⟩
  · rw [h9] at hk hsn ⊢
    exact .inr ⟨K', D', rfl, h12, by dsimp only at hsn; omega, h13, h.d.next hb h2 h3 h4 h5 h6 h7 hk⟩
/-- A keeper whose disk went down says so. -/
theorem SafD.save13 (h : SafD w W g nb lb sz kb K D y) (hd : K.dead = 13) (s : Sv) (hb : Below W.heap.size W W1) (hs : s.At W1 (W.heap.size ≤ ·)) (hf : s.Fit) (htab : TabW W1) (hev : EvW W1 W1.heap.size) (hn : K.n ≤ 1000000000) (hq : D.q.length ≤ 900000) :
    Calls Tryz.prog 7 #[.pointer (some ⟨kb, 0, none⟩), s.val] W1 (fun e w' => e = .returned (errD 13) ∧ SafD w w' g nb lb sz kb K D y) := by
  obtain ⟨L, t0, t1, z, h1, h2, h3, h4, h5, h6, h7⟩ := h.ex
  have hx := h1.below hb
  have hs' : s.At W1 (fun b => ¬ L b ∧ b ≠ t0 ∧ b ≠ t1 ∧ b ≠ kb) := hs.mono fun b hx => ⟨fun hl => by have := h1.dx.lt b hl; omega, fun e => by have := h1.b0.lt; omega, fun e => by have := h1.b1.lt; omega, fun e => by have := h1.kb.lt; omega⟩
  refine (save_any W1 hx s hs' hf htab hev hn hq).mono ?_
  intro e w' hp
  obtain ⟨rfl, z', hk⟩ := hp
  have e3 : K.save D s.st = (K, D, 13) := by unfold Kp.save; rw [if_pos (by omega), hd]
  rw [e3] at hk ⊢
  exact ⟨rfl, h.next hb h2 h3 h4 h5 h6 h7 hk⟩
/-- Opened again. -/
theorem SafD.again (h : SafD w W g nb lb sz kb K D y) (hi : KInv sz K1 D) (hn1 : 1 ≤ K1.n) (A : Option Addr) (n c : Nat) (cf : List Int) (hb : Below W.heap.size W W1) (hr : Rd W1 (W.heap.size ≤ ·) 1 A n (ii cf)) (hn : n ≤ c ∧ c ≤ maxLen) (hm : cmay cf = true) (htab : TabW W1) (hev : EvW W1 W1.heap.size) (hsz : 20 ≤ sz) :
    Calls Tryz.prog 12 #[.pointer (some ⟨g, 0, none⟩), .slice A n c] W1 fun e w' => ∃ k', e = .returned (.tuple #[.pointer (some ⟨k', 0, none⟩), .nilIface]) ∧ SafI w w' g nb lb sz k' K1 D y := by
  obtain ⟨L, t0, t1, z, h1, h2, h3, h4, h5, h6, h7⟩ := h.ex
  have hx := h1.below hb
  have hr' : Rd W1 (fun b => ¬ L b) 1 A n (ii cf) := hr.mono fun b hb' hl => by have := h1.dx.lt b hl; have h9 : W.heap.size ≤ b := hb'; omega
  have hlt := h.bx.lt
  have hz1 := hb.size
  refine (kopen_any (fb := nb) A n c cf W1 hx.dx hr' hn hm hsz hi.calm.off (by rw [hi.calm.q]; exact Nat.zero_le _) htab hev (by omega)).mono ?_
  intro e w' hp
  obtain ⟨k', t0', t1', z', rfl, hx', hk0, ht0, ht1, hb'⟩ := hp.again hi hn1
  have hb2 : Below W.heap.size W w' := hb.trans (hb'.mono hz1)
  have hz := h.be.size
  have hi' := h.below hb2
  have hll := h.ll
  exact ⟨k', rfl, ⟨⟨⟨L, t0', t1', z', hx', h2, by omega, by omega, h5, ⟨by omega, by omega⟩, ⟨by omega, by omega⟩⟩, by omega, by omega, by omega, h.nl, by have := hb2.size; omega, hi'.bx, h.b0, hi'.y1, h.y2, hi'.be⟩, hi, hn1⟩⟩
end
end Go.Proofs.YtlecglmiigdjlaaGreatDoor
namespace Go.Proofs.YtlecglmiigdjlaaGreatDoor
open Go.RowKit
set_option maxRecDepth 100000
set_option linter.unusedVariables false
set_option linter.unusedSimpArgs false
theorem encN_app (a b c : Nat) (d : List UInt8) : encN a b c d = uintL a ++ (uintL b ++ (uintL c ++ (bytesL d ++ []))) := by simp [encN]
theorem encN_inj {a b c a' b' c' : Nat} {d d' : List UInt8} (ha : a < 18446744073709551616) (hb : b < 18446744073709551616) (hc : c < 18446744073709551616) (hd : d.length < 18446744073709551616)
    (ha' : a' < 18446744073709551616) (hb' : b' < 18446744073709551616) (hc' : c' < 18446744073709551616) (hd' : d'.length < 18446744073709551616) (h : encN a b c d = encN a' b' c' d') : a = a' ∧ b = b' ∧ c = c' ∧ d = d' := by
  rw [encN_app, encN_app] at h
  have step : ∀ {u v : Nat} {r s : List UInt8}, u < 18446744073709551616 → v < 18446744073709551616 → uintL u ++ r = uintL v ++ s → u = v ∧ r = s := by
    intro u v r s hu hv he
    have h1 := uintS_lay (most := 18446744073709551615) hu (by omega) r
    have h2 := uintS_lay (most := 18446744073709551615) hv (by omega) s
    rw [he, h2] at h1
    simp only [Prod.mk.injEq] at h1
    exact ⟨h1.2.symm, h1.1.1.symm⟩
  obtain ⟨e1, h⟩ := step ha ha' h
  obtain ⟨e2, h⟩ := step hb hb' h
  obtain ⟨e3, h⟩ := step hc hc' h
  have h1 := bytesS_lay (most := 18446744073709551615) hd (by omega) []
  have h2 := bytesS_lay (most := 18446744073709551615) hd' (by omega) []
  rw [h, h2] at h1
  simp only [Prod.mk.injEq] at h1
  exact ⟨e1, e2, e3, h1.2.symm⟩
theorem encE_inj {x y : Er} (hx : Wt x) (hy : Wt y) (lx : x.d.length = x.n) (ly : y.d.length = y.n) (h : encE (en x) = encE (en y)) : en x = en y := by
  obtain ⟨a, b, c, A, n, m, d⟩ := x
  obtain ⟨a', b', c', A', n', m', d'⟩ := y
  unfold Wt at hx hy
  unfold encE en at h
  dsimp only at hx hy lx ly h
  obtain ⟨e1, e2, e3, e4⟩ := encN_inj (by omega) (by omega) (by omega) (by omega) (by omega) (by omega) (by omega) (by omega) h
  unfold en
  simp only [En.mk.injEq]
  exact ⟨by omega, by omega, by omega, e4⟩
theorem take_snoc_eq {α : Type} {L L' : List α} {k : Nat} {x y : α} (hx : L[k]? = some x) (hy : L'[k]? = some y) (h : L.take k = L'.take k) : (L.take (k + 1) = L'.take (k + 1)) ↔ x = y := by
  rw [List.take_add_one, List.take_add_one, hx, hy, h]
  simp
set_option maxHeartbeats 6400000 in
theorem entries_eqlen (A : Option Addr) (n c : Nat) (L : List Er) (B : Option Addr) (d : Nat) (L' : List Er) (w : World) {ok ok' : Nat → Prop} (hr : Rd w ok 4 A n (flat ecell L)) (hr' : Rd w ok' 4 B n (flat ecell L')) (hd : ∀ x ∈ L, Rd w T 1 x.A x.n (bs x.d)) (hd' : ∀ x ∈ L', Rd w T 1 x.A x.n (bs x.d)) (hw : ∀ x ∈ L, Wt x) (hw' : ∀ x ∈ L', Wt x) (hn : n ≤ 1000000) (htab : TabW w) (res : Bool) (hres : res = true ↔ L.map en = L'.map en) :
    Calls Tryz.prog 81 #[.slice A n c, .slice B n d] w (BoolPost w res) := by
  have hnn : ((n : Int) != (n : Int)) = false := by simp
  have hlen : L.length = n := hr.flen ecell_len (by omega)
  have hlen' : L'.length = n := hr'.flen ecell_len (by omega)
  have henc := fun x (hx : x ∈ L) W (hb : Below w.heap.size w W) => enc_er x W (hw x hx) ((hd x hx).below hb) (htab.below hb (Nat.le_refl _))
  have hencR := fun x (hx : x ∈ L') W (hb : Below w.heap.size w W) => encR_er x W (hw' x hx) ((hd' x hx).below hb)
  have hinj := fun x (hx : x ∈ L) y (hy : y ∈ L') => encE_inj (hw x hx) (hw' y hy) (hd x hx).blen (hd' y hy).blen
  unfold ecA at henc hencR
  have Henc := Lib.hid henc
  have HencR := Lib.hid hencR
  have Hinj := Lib.hid hinj
  have Hr := Lib.hid hr
  have Hr' := Lib.hid hr'
  have HL := Lib.hid (And.intro hlen hlen')
  clear henc hencR hinj hr hr' hd hd' hw hw' htab hlen hlen'
  have Hres := Lib.hid hres
  clear hres
  go_enter Tryz.func81, Tryz.ntmps81
  go_wp2_with fail
  go_loopg [5] n (fun mu s5 wr => ∃ k, mu = n - k ∧ k ≤ n ∧ s5 = .int .i64 (k : Nat) ∧ Below w.heap.size w wr ∧ (L.map en).take k = (L'.map en).take k)
  case atStart => exact ⟨0, by omega, by omega, rfl, Below.refl _ _, by simp⟩
  case round =>
    obtain ⟨k, hmu, hk, rfl, hbe, hpre⟩ := hrel
    have Hmu := Lib.hid hmu
    have Hbe := Lib.hid hbe
    have Hpre := Lib.hid hpre
    clear hmu hpre
    obtain ⟨wq, rfl⟩ : ∃ wq, wq = wr := ⟨_, rfl⟩
    by_cases hlt : k < n
    · obtain ⟨xb, xo, x, hxA, -, -, hx, x0, x1, x2, x3⟩ := er_cells (Hr.out.below hbe) hlt
      obtain ⟨yb, yo, y, hyA, -, -, hy, y0, y1, y2, y3⟩ := er_cells (Hr'.out.below hbe) hlt
      subst hxA hyA
      have hkI : (k : Int) < n := by omega
      have hk0 : (0 : Int) ≤ k := by omega
      have sof : ∀ W, Below wq.heap.size wq W → (W.cell? ⟨xb, xo + k * 4, none⟩ = some (.int .i64 x.a) ∧ W.cell? ⟨xb, xo + k * 4 + 1, none⟩ = some (.int .i64 x.b) ∧ W.cell? ⟨xb, xo + k * 4 + 2, none⟩ = some (.int .i64 x.c) ∧ W.cell? ⟨xb, xo + k * 4 + 3, none⟩ = some (.slice x.A x.n x.m) ∧ W.cell? ⟨yb, yo + k * 4, none⟩ = some (.int .i64 y.a) ∧ W.cell? ⟨yb, yo + k * 4 + 1, none⟩ = some (.int .i64 y.b) ∧ W.cell? ⟨yb, yo + k * 4 + 2, none⟩ = some (.int .i64 y.c) ∧ W.cell? ⟨yb, yo + k * 4 + 3, none⟩ = some (.slice y.A y.n y.m)) :=
        fun W h => ⟨(h.cell (p := ⟨xb, _, none⟩) (World.block_lt_of_cell? wq _ x0)).trans x0, (h.cell (p := ⟨xb, _, none⟩) (World.block_lt_of_cell? wq _ x1)).trans x1, (h.cell (p := ⟨xb, _, none⟩) (World.block_lt_of_cell? wq _ x2)).trans x2, (h.cell (p := ⟨xb, _, none⟩) (World.block_lt_of_cell? wq _ x3)).trans x3, (h.cell (p := ⟨yb, _, none⟩) (World.block_lt_of_cell? wq _ y0)).trans y0, (h.cell (p := ⟨yb, _, none⟩) (World.block_lt_of_cell? wq _ y1)).trans y1, (h.cell (p := ⟨yb, _, none⟩) (World.block_lt_of_cell? wq _ y2)).trans y2, (h.cell (p := ⟨yb, _, none⟩) (World.block_lt_of_cell? wq _ y3)).trans y3⟩
      have he := fun W (hb : Below wq.heap.size wq W) => Henc.out x (List.mem_of_getElem? hx) W (hbe.trans (hb.mono hbe.size))
      have heR := fun W (hb : Below wq.heap.size wq W) => HencR.out y (List.mem_of_getElem? hy) W (hbe.trans (hb.mono hbe.size))
      have hij := Hinj.out x (List.mem_of_getElem? hx) y (List.mem_of_getElem? hy)
      have hex : (L.map en)[k]? = some (en x) := by rw [List.getElem?_map, hx]; rfl
      have hey : (L'.map en)[k]? = some (en y) := by rw [List.getElem?_map, hy]; rfl
      obtain ⟨q, hq⟩ : ∃ q : Bool, q = (encE (en x) == encE (en y)) := ⟨_, rfl⟩
      have hq2 : q = true ↔ (L.map en).take (k + 1) = (L'.map en).take (k + 1) := by
        rw [take_snoc_eq hex hey Hpre.out, hq, beq_iff_eq]
        exact ⟨hij, fun h => by rw [h]⟩
      have Hq2 := Lib.hid hq2
      have Sof := Lib.hid sof
      have He := Lib.hid he
      have HeR := Lib.hid heR
      clear hq2 hij hex hey hx hy sof he heR hbe x0 x1 x2 x3 y0 y1 y2 y3
      generalize encE (en x) = E at He hq
      generalize encE (en y) = E' at HeR hq
      have Hq := Lib.hid hq
      clear hq
      go_upto_region 6 with (fail)
      go_cut [29] (fun s29 W => s29 = .bool (!q) ∧ Below wq.heap.size wq W)
      case first =>
        refine wp_region_S 12 (fun W => Below wq.heap.size wq W) (.take 0 (.take 1 (.take 2 (.take 3 (.take 6 (.take 7 (.take 8 (.take 9 (.one 4 (.take 5 (.one 10 (.take 11 (.one 12 (.nil)))))))))))))) (by kernel_rfl) (Below.refl _ _).drew (fun _ _ _ _ h => h) (fun hS => ?_)
        repeat (first
          | (refine wpS_take (v := ?_) rfl rfl (by rfl) ?_ ?_; rotate_left; (intro W hW; have hf := Sof.out W hW; go_split_ands; go_simp; try with_reducible rfl); try simp only [Act.put, List.setIfInBounds_toArray, List.set_cons_zero, List.set_cons_succ])
          | (refine wpS_skip rfl rfl (by rfl) ?_; try simp only [Act.put, List.setIfInBounds_toArray, List.set_cons_zero, List.set_cons_succ]))
        refine wpS_one rfl (by rfl) (fun K hK => ?_)
        go_simp
        go_at_call 100
        refine (He.out _ hS).mono ?_
        rintro e w1 ⟨A1, n1, c1, rfl, h1, hb1⟩
        have hS1 : Below wq.heap.size wq w1 := hS.trans (hb1.mono hS.size)
        have r1 := Rd.of_own h1
        have cv1 := fun W (hb : Below w1.heap.size w1 W) => conv_bytes (P := Tryz.prog) (c := c1) 33 9 5 Tryz.underlying33 Tryz.underlying5 Tryz.underlying9 (r1.below hb)
        have CV1 := Lib.hid cv1
        clear cv1 h1
        refine hK (fun W => Below w1.heap.size w1 W) _ _ (fun W h => hS1.trans (h.mono hS1.size)) (Below.refl _ _) ?_
        clear hK K
        try simp only [Act.put, List.setIfInBounds_toArray, List.set_cons_zero, List.set_cons_succ]
        repeat (first
          | (refine wpS_take (v := ?_) rfl rfl (by rfl) ?_ ?_; rotate_left; (intro W hW; have hf := CV1.out W hW; go_split_ands; go_simp; try with_reducible rfl); try simp only [Act.put, List.setIfInBounds_toArray, List.set_cons_zero, List.set_cons_succ])
          | (refine wpS_skip rfl rfl (by rfl) ?_; try simp only [Act.put, List.setIfInBounds_toArray, List.set_cons_zero, List.set_cons_succ]))
        refine wpS_one rfl (by rfl) (fun K hK => ?_)
        go_simp
        go_at_call 42
        refine (HeR.out _ hS1).mono ?_
        rintro e w2 ⟨A2, n2, c2, rfl, h2, hb2⟩
        have hS2 : Below wq.heap.size wq w2 := hS1.trans (hb2.mono hS1.size)
        have r2 := Rd.of_own h2
        have cv2 := fun W (hb : Below w2.heap.size w2 W) => conv_bytes (P := Tryz.prog) (c := c2) 33 9 5 Tryz.underlying33 Tryz.underlying5 Tryz.underlying9 (r2.below hb)
        have CV2 := Lib.hid cv2
        clear cv2 h2
        refine hK (fun W => Below w2.heap.size w2 W) _ _ (fun W h => hb2.trans (h.mono hb2.size)) (Below.refl _ _) ?_
        clear hK K
        try simp only [Act.put, List.setIfInBounds_toArray, List.set_cons_zero, List.set_cons_succ]
        repeat (first
          | (refine wpS_take (v := ?_) rfl rfl (by rfl) ?_ ?_; rotate_left; (intro W hW; have hf := CV2.out W hW; go_split_ands; go_simp; try with_reducible rfl); try simp only [Act.put, List.setIfInBounds_toArray, List.set_cons_zero, List.set_cons_succ])
          | (refine wpS_skip rfl rfl (by rfl) ?_; try simp only [Act.put, List.setIfInBounds_toArray, List.set_cons_zero, List.set_cons_succ]))
        refine wpS_last rfl (by rfl) (fun K hK => ?_)
        go_simp
        refine hK _ _ ?_
        clear hK K
        try simp only [Act.put, List.setIfInBounds_toArray, List.set_cons_zero, List.set_cons_succ]
        refine wpS_nil ?_
        have hne : (E != E') = !q := by rw [Hq.out]; rfl
        have S2 := Lib.hid hS2
        clear hS hS1 hS2 hb1 hb2 CV1 CV2 r1 r2
        try rw [hne]
        go_wp2_with fail
        go_meet
        case rel =>
          have hqe := Hq.out
          exact ⟨by first | rfl | (rw [hne]; done) | (rw [hqe]; done) | (rw [hqe]; rfl) | (rw [hqe]; simp [bne]), S2.out⟩
      case rest =>
        obtain ⟨rfl, hb5⟩ := hcut
        have hb6 := Hbe.out.trans (hb5.mono Hbe.out.size)
        have Hb6 := Lib.hid hb6
        clear hb5 hb6
        cases q with
        | true =>
          go_wp2_with fail
          go_roundg (n - (k + 1))
          case measure => have := Hmu.out; omega
          case rel => exact ⟨k + 1, rfl, by omega, by go_num, Hb6.out, Hq2.out.1 (by trivial)⟩
        | false =>
          go_wp2_with fail
          go_ret
          refine ⟨ret_bool ?_, Hb6.out⟩
          refine (Bool.eq_false_iff.2 fun h0 => ?_).symm
          have h := Hres.out.1 h0
          have := Hq2.out.2 (by rw [h])
          cases this
    · have hdd : decide ((k : Int) < (n : Int)) = false := by simp; omega
      go_wp2_with fail
      go_ret
      refine ⟨ret_bool ?_, hbe⟩
      refine (Hres.out.2 ?_).symm
      have := Hpre.out
      rw [List.take_of_length_le (by rw [List.length_map, HL.out.1]; omega), List.take_of_length_le (by rw [List.length_map, HL.out.2]; omega)] at this
      exact this
theorem entries_any (A : Option Addr) (n c : Nat) (L : List Er) (B : Option Addr) (m d : Nat) (L' : List Er) (w : World) {ok ok' : Nat → Prop} (hr : Rd w ok 4 A n (flat ecell L)) (hr' : Rd w ok' 4 B m (flat ecell L')) (hd : ∀ x ∈ L, Rd w T 1 x.A x.n (bs x.d)) (hd' : ∀ x ∈ L', Rd w T 1 x.A x.n (bs x.d)) (hw : ∀ x ∈ L, Wt x) (hw' : ∀ x ∈ L', Wt x) (hn : n ≤ 1000000) (htab : TabW w) (res : Bool) (hres : res = true ↔ L.map en = L'.map en) :
    Calls Tryz.prog 81 #[.slice A n c, .slice B m d] w (BoolPost w res) := by
  by_cases e : n = m
  · subst e
    exact entries_eqlen A n c L B d L' w hr hr' hd hd' hw hw' hn htab res hres
  · have h1 : res = false := Bool.eq_false_iff.2 fun h0 => by
      have h := hres.1 h0
      have := congrArg List.length h
      rw [List.length_map, List.length_map, hr.flen ecell_len (by omega), hr'.flen ecell_len (by omega)] at this
      exact e this
    rw [h1]
    exact entries_no A n c B m d w e
end Go.Proofs.YtlecglmiigdjlaaGreatDoor
namespace Go.Proofs.YtlecglmiigdjlaaGreatDoor
open Go.RowKit
set_option maxRecDepth 100000
set_option linter.unusedVariables false
set_option linter.unusedSimpArgs false
set_option maxHeartbeats 1600000 in
theorem sameLog_any (x y : Sv) (w : World) {ok ok' : Nat → Prop} (hx : x.At w ok) (hy : y.At w ok') (fx : x.Fit) (fy : y.Fit) (mx : x.st.may = true) (my : y.st.may = true) (htab : TabW w) (res : Bool) (hres : res = true ↔ x.b = y.b ∧ x.t = y.t ∧ x.L.map en = y.L.map en) :
    Calls Tryz.prog 44 #[.agg #[.int .i64 x.b, .int .i64 x.t, .slice x.A x.n x.c], .agg #[.int .i64 y.b, .int .i64 y.t, .slice y.A y.n y.c]] w (BoolPost w res) := by
  obtain ⟨re, hre⟩ : ∃ re : Bool, re = true ↔ x.L.map en = y.L.map en := by
    by_cases h : x.L.map en = y.L.map en
    · exact ⟨true, by simp [h]⟩
    · exact ⟨false, by simp [h]⟩
  obtain ⟨q1, hq1⟩ : ∃ q, (x.b == y.b) = q := ⟨_, rfl⟩
  obtain ⟨q2, hq2⟩ : ∃ q, (x.t == y.t) = q := ⟨_, rfl⟩
  have hr : res = (q1 && q2 && re) := by
    rw [← hq1, ← hq2, Bool.eq_iff_iff, hres, Bool.and_eq_true, Bool.and_eq_true, beq_iff_eq, beq_iff_eq, hre]
    exact ⟨fun ⟨a, b, c⟩ => ⟨⟨a, b⟩, c⟩, fun ⟨⟨a, b⟩, c⟩ => ⟨a, b, c⟩⟩
  obtain ⟨W0, hW0⟩ : ∃ W0, W0 = (w.alloc (.cells #[.int .i64 x.b, .int .i64 x.t, .slice x.A x.n x.c] 31)).alloc (.cells #[.int .i64 y.b, .int .i64 y.t, .slice y.A y.n y.c] 48) := ⟨_, rfl⟩
  have b0 : Bx W0 w.heap.size #[.int .i64 x.b, .int .i64 x.t, .slice x.A x.n x.c] := by subst hW0; exact (Bx.new _ _ _ rfl).alloc _
  have b1 : Bx W0 (w.heap.size + 1) #[.int .i64 y.b, .int .i64 y.t, .slice y.A y.n y.c] := by subst hW0; exact Bx.new _ _ _ (by simp)
  have hbe : Below w.heap.size w W0 := by subst hW0; exact ((Below.refl _ _).alloc (Nat.le_refl _) _).alloc (by simp) _
  have a0 := hx.below hbe
  have a1 := hy.below hbe
  have hen := entries_any x.A x.n x.c x.L y.A y.n y.c y.L W0 a0.l a1.l (fun z hz => (a0.d z hz).1.any) (fun z hz => (a1.d z hz).1.any) (wt_of (W := w) (ok := ok) fx mx) (wt_of (W := w) (ok := ok) fy my) fx.z.1 (htab.below hbe (Nat.le_refl _)) re hre
  obtain ⟨c0, c1, c2, -⟩ := b0.c3
  obtain ⟨d0, d1, d2, -⟩ := b1.c3
  have HW := Lib.hid hW0
  have B := Lib.hid hbe
  have Hen := Lib.hid hen
  subst hr
  clear hW0 b0 b1 hbe a0 a1 hen hx hy fx fy htab hre hres mx my
  cases q1
  · go_enter Tryz.func44, Tryz.ntmps44
    go_upto_region 1 with (fail)
    rw [← HW.out]
    go_wp2_with fail
    go_ret
    exact ⟨rfl, B.out⟩
  · cases q2
    · go_enter Tryz.func44, Tryz.ntmps44
      go_upto_region 1 with (fail)
      rw [← HW.out]
      go_wp2_with fail
      go_ret
      exact ⟨rfl, B.out⟩
    · go_enter Tryz.func44, Tryz.ntmps44
      go_upto_region 1 with (fail)
      rw [← HW.out]
      go_wp2_with fail
      refine Hen.out.mono ?_
      rintro e w1 ⟨rfl, hb1⟩
      have K := Lib.hid (B.out.trans (hb1.mono B.out.size))
      clear hb1
      go_wp2_with fail
      go_ret
      exact ⟨rfl, K.out⟩
set_option maxHeartbeats 6400000 in
theorem sameS_any (x y : Sv) (w : World) {ok ok' : Nat → Prop} (hx : x.At w ok) (hy : y.At w ok') (fx : x.Fit) (fy : y.Fit) (mx : x.st.may = true) (my : y.st.may = true) (htab : TabW w) (res : Bool) (hres : res = true ↔ x.st = y.st) :
    Calls Tryz.prog 19 #[x.val, y.val] w (BoolPost w res) := by
  obtain ⟨rl, hrl⟩ : ∃ rl : Bool, rl = true ↔ x.b = y.b ∧ x.t = y.t ∧ x.L.map en = y.L.map en := by
    by_cases h : x.b = y.b ∧ x.t = y.t ∧ x.L.map en = y.L.map en
    · exact ⟨true, by simp [h]⟩
    · exact ⟨false, by simp [h]⟩
  obtain ⟨q1, hq1⟩ : ∃ q, (x.tm == y.tm) = q := ⟨_, rfl⟩
  obtain ⟨q2, hq2⟩ : ∃ q, (x.vt == y.vt) = q := ⟨_, rfl⟩
  obtain ⟨q3, hq3⟩ : ∃ q, decide (x.cf = y.cf) = q := ⟨_, rfl⟩
  obtain ⟨q4, hq4⟩ : ∃ q, (x.sn == y.sn) = q := ⟨_, rfl⟩
  have hr : res = (q1 && q2 && rl && q3 && q4) := by
    rw [← hq1, ← hq2, ← hq3, ← hq4, Bool.eq_iff_iff, hres, Bool.and_eq_true, Bool.and_eq_true, Bool.and_eq_true, Bool.and_eq_true, beq_iff_eq, beq_iff_eq, beq_iff_eq, decide_eq_true_iff, hrl, st_iff]
    exact ⟨fun ⟨a, b, c, d, e, f, g⟩ => ⟨⟨⟨⟨a, b⟩, c, d, e⟩, f⟩, g⟩, fun ⟨⟨⟨⟨a, b⟩, c, d, e⟩, f⟩, g⟩ => ⟨a, b, c, d, e, f, g⟩⟩
  obtain ⟨W0, hW0⟩ : ∃ W0, W0 = (w.alloc (.cells x.cells 35)).alloc (.cells y.cells 50) := ⟨_, rfl⟩
  have b0 : Bx W0 w.heap.size x.cells := by subst hW0; exact (Bx.new _ _ _ rfl).alloc _
  have b1 : Bx W0 (w.heap.size + 1) y.cells := by subst hW0; exact Bx.new _ _ _ (by simp)
  have hbe : Below w.heap.size w W0 := by subst hW0; exact ((Below.refl _ _).alloc (Nat.le_refl _) _).alloc (by simp) _
  have a0 := hx.below hbe
  have a1 := hy.below hbe
  have hlg := sameLog_any x y W0 a0 a1 fx fy mx my (htab.below hbe (Nat.le_refl _)) rl hrl
  have hin := fun W (hb : Below W0.heap.size W0 W) => ints_any x.C x.nc x.cc y.C y.nc y.cc x.cf y.cf W (a0.cf.below hb) (a1.cf.below hb) (by have := fx.z.2.1; omega)
  rw [hq3] at hin
  have cv1 := fun W (hb : Below W0.heap.size W0 W) => conv_bytes (P := Tryz.prog) (c := x.cs) 33 9 5 Tryz.underlying33 Tryz.underlying5 Tryz.underlying9 (a0.sn.below hb)
  have cv2 := fun W (hb : Below W0.heap.size W0 W) => conv_bytes (P := Tryz.prog) (c := y.cs) 33 9 5 Tryz.underlying33 Tryz.underlying5 Tryz.underlying9 (a1.sn.below hb)
  have F : ∀ W, Below W0.heap.size W0 W → (W.cell? ⟨w.heap.size, 0, none⟩ = some (.int .i64 x.tm) ∧ W.cell? ⟨w.heap.size, 1, none⟩ = some (.int .i64 x.vt) ∧ W.cell? ⟨w.heap.size, 2, none⟩ = some (.int .i64 x.b) ∧ W.cell? ⟨w.heap.size, 3, none⟩ = some (.int .i64 x.t) ∧ W.cell? ⟨w.heap.size, 4, none⟩ = some (.slice x.A x.n x.c) ∧ W.cell? ⟨w.heap.size, 5, none⟩ = some (.slice x.C x.nc x.cc) ∧ W.cell? ⟨w.heap.size, 6, none⟩ = some (.slice x.S x.ns x.cs)) ∧ (W.cell? ⟨w.heap.size + 1, 0, none⟩ = some (.int .i64 y.tm) ∧ W.cell? ⟨w.heap.size + 1, 1, none⟩ = some (.int .i64 y.vt) ∧ W.cell? ⟨w.heap.size + 1, 2, none⟩ = some (.int .i64 y.b) ∧ W.cell? ⟨w.heap.size + 1, 3, none⟩ = some (.int .i64 y.t) ∧ W.cell? ⟨w.heap.size + 1, 4, none⟩ = some (.slice y.A y.n y.c) ∧ W.cell? ⟨w.heap.size + 1, 5, none⟩ = some (.slice y.C y.nc y.cc) ∧ W.cell? ⟨w.heap.size + 1, 6, none⟩ = some (.slice y.S y.ns y.cs)) := fun W hb => ⟨Sv.c7 (b0.below hb), Sv.c7 (b1.below hb)⟩
  obtain ⟨⟨c0, c1, c2, c3, c4, c5, c6⟩, d0, d1, d2, d3, d4, d5, d6⟩ := F W0 (Below.refl _ _)
  have HW := Lib.hid hW0
  have B := Lib.hid hbe
  have Hlg := Lib.hid hlg
  have Hin := Lib.hid hin
  have CV := Lib.hid (And.intro cv1 cv2)
  have FF := Lib.hid F
  subst hr
  clear hW0 b0 b1 hbe a0 a1 hlg hin cv1 cv2 F hx hy fx fy htab hres hrl mx my hq3
  unfold Sv.val stA
  have go0 : ∀ (P : Prop), P → P := fun _ h => h
  clear go0
  cases q1
  · go_enter Tryz.func19, Tryz.ntmps19
    go_upto_region 1 with (fail)
    have HW' := HW.out
    unfold Sv.cells at HW'
    rw [← HW']
    clear HW'
    go_wp2_with fail
    go_ret
    exact ⟨rfl, B.out⟩
  cases q2
  · go_enter Tryz.func19, Tryz.ntmps19
    go_upto_region 1 with (fail)
    have HW' := HW.out
    unfold Sv.cells at HW'
    rw [← HW']
    clear HW'
    go_wp2_with fail
    go_ret
    exact ⟨rfl, B.out⟩
  go_enter Tryz.func19, Tryz.ntmps19
  go_upto_region 1 with (fail)
  have HW' := HW.out
  unfold Sv.cells at HW'
  rw [← HW']
  clear HW'
  go_wp2_with fail
  refine Hlg.out.mono ?_
  rintro e w1 ⟨rfl, hb1⟩
  have K1 := Lib.hid hb1
  clear hb1 c0 c1 c2 c3 c4 c5 c6 d0 d1 d2 d3 d4 d5 d6
  obtain ⟨⟨c0, c1, c2, c3, c4, c5, c6⟩, d0, d1, d2, d3, d4, d5, d6⟩ := FF.out w1 K1.out
  have HB1 := Lib.hid (B.out.trans (K1.out.mono B.out.size))
  cases rl
  · go_wp2_with fail
    go_ret
    exact ⟨rfl, HB1.out⟩
  go_wp2_with fail
  refine (Hin.out w1 K1.out).mono ?_
  rintro e w2 ⟨rfl, hb2⟩
  have K2 := Lib.hid (K1.out.trans (hb2.mono K1.out.size))
  clear hb2 c0 c1 c2 c3 c4 c5 c6 d0 d1 d2 d3 d4 d5 d6
  obtain ⟨⟨c0, c1, c2, c3, c4, c5, c6⟩, d0, d1, d2, d3, d4, d5, d6⟩ := FF.out w2 K2.out
  have v1 := CV.out.1 w2 K2.out
  have v2 := CV.out.2 w2 K2.out
  have HB2 := Lib.hid (B.out.trans (K2.out.mono B.out.size))
  cases q3
  · go_wp2_with fail
    go_ret
    exact ⟨rfl, HB2.out⟩
  · go_wp2_with fail
    go_ret
    exact ⟨rfl, HB2.out⟩
end Go.Proofs.YtlecglmiigdjlaaGreatDoor
namespace Go.Proofs.YtlecglmiigdjlaaGreatDoor
open Go.RowKit
section
variable {P : Program} (w : World)
theorem run_append_wide (base : Nat) (t ty e : TypeId) (z : Value) (size bytes : Nat) (ht : P.underlying t = some (.slice e)) (he : Elem P e z size bytes) (hzs : z.cells.size = size) (hsz : 0 < size)
    (v : Value) (n : Nat) (xs : List Value) (hown : w.ownsRow base e size v n xs)
    (ok : Nat → Prop) (A : Option Addr) (m c : Nat) (news : List Value) (hr : Rd w ok size A m news) (h1 : ∀ u ∈ news, u.oneCell' = true)
    (hbytes' : (n + m) * bytes ≤ 140737488355328) (h63 : n + m ≤ maxLen) (hbase : base ≤ w.heap.size) :
    ∃ v' w', (Builtin.append_ #[t, t] ty #[v, .slice A m c]).run P w = .ok v' w' ∧ w'.ownsRow base e size v' (n + m) (xs ++ news) ∧ w.grownBy w' v.ownBlock ∧
      (v'.ownBlock = v.ownBlock ∨ v'.ownBlock = some w.heap.size) := by
  obtain ⟨i, hi, hz, hsize, hby⟩ := info_parts he
  rcases A with _ | ad
  · obtain ⟨hm, hn⟩ := hr.nil_of_none
    subst hm hn
    exact ⟨v, w, run_append_of_nil w base t ty e i size ht hi v n xs hown c, by simpa using hown, World.grownBy.refl w _, .inl rfl⟩
  · have hcells : ∀ j u, news[j]? = some u → w.cell? (ad.add j) = some u := by
      intro j u hu
      rcases Nat.eq_zero_or_pos m with h0 | h0
      · subst h0
        rw [hr.nil_of_zero] at hu
        simp at hu
      · obtain ⟨ad', h, _, hc⟩ := hr.2 h0
        injection h with h
        subst h
        exact hc j u hu
    obtain ⟨v', w', hrun, h2, h3, _, h5⟩ := run_append_own_at (P := P) w base t ty e i z size bytes ht hi hz hsize hby hzs hsz v n xs hown ad m c news hr.1 hcells h1 h63 hbytes' hbase
    exact ⟨v', w', hrun, h2, h3, h5⟩

theorem wp_append_wide {o : Oper} {a : Act} {K : Act → World → Prop} {Q : Exit → Act → World → Prop} {s x : Operand} {t e : TypeId} {z : Value} {size bytes : Nat}
    (ht : P.underlying t = some (.slice e)) (he : Elem P e z size bytes) (hzs : z.cells.size = size) (hsz : 0 < size)
    (ho : o.op = .call { callee := .builtin .append, args := #[s, x], argTypes := #[t, t] })
    {base : Nat} {A0 : Option Addr} {n c0 : Nat} {xs : List Value} (hs : a.eval s = .slice A0 n c0) (hown : w.ownsRow base e size (.slice A0 n c0) n xs)
    {ok : Nat → Prop} {A : Option Addr} {m c : Nat} {news : List Value} (hx : a.eval x = .slice A m c) (hr : Rd w ok size A m news) (h1 : ∀ u ∈ news, u.oneCell' = true)
    (hbytes : (n + m) * bytes ≤ 140737488355328) (h63 : n + m ≤ maxLen) (hbase : base ≤ w.heap.size) {k : Nat} {ys : List Value} (hk : n + m = k) (hys : xs ++ news = ys)
    (h : ∀ A' c' w', w'.ownsRow base e size (.slice A' k c') k ys → w.grownBy w' (A0.map (·.block)) → (A'.map (·.block) = A0.map (·.block) ∨ A'.map (·.block) = some w.heap.size) → K (a.put o.dst (.slice A' k c')) w') : o.wp P a w K Q := by
  obtain ⟨v', w', hrun, h2, h3, h4⟩ := run_append_wide (P := P) w base t o.type e z size bytes ht he hzs hsz _ n xs hown ok A m c news hr h1 hbytes h63 hbase
  obtain ⟨A', c', rfl, _⟩ := own_form h2
  subst hk hys
  unfold Oper.wp execOp
  simp only [ho, resolve, invoke, builtin, Sem.run_bind, Sem.run_pure, Result.andThen_ok, List.map_toArray, List.map_cons, List.map_nil, hs, hx, hrun]
  have e1 : ∀ (B : Option Addr) (p q : Nat), (Value.slice B p q).ownBlock = B.map (·.block) := fun B p q => by cases B <;> rfl
  rw [e1] at h3 h4
  rw [e1] at h4
  exact h A' c' w' h2 h3 h4

theorem wpList_append_wide {ops : Array Oper} {rest : List Oper} {o : Oper} {a : Act} {Q : Exit → Act → World → Prop} {s x : Operand} {t e : TypeId} {z : Value} {size bytes : Nat}
    (ht : P.underlying t = some (.slice e)) (he : Elem P e z size bytes) (hzs : z.cells.size = size) (hsz : 0 < size)
    (hgd : o.guard = none) (ho : o.op = .call { callee := .builtin .append, args := #[s, x], argTypes := #[t, t] })
    {base : Nat} {A0 : Option Addr} {n c0 : Nat} {xs : List Value} (hs : a.eval s = .slice A0 n c0) (hown : w.ownsRow base e size (.slice A0 n c0) n xs)
    {ok : Nat → Prop} {A : Option Addr} {m c : Nat} {news : List Value} (hx : a.eval x = .slice A m c) (hr : Rd w ok size A m news) (h1 : ∀ u ∈ news, u.oneCell' = true)
    (hbytes : (n + m) * bytes ≤ 140737488355328) (h63 : n + m ≤ maxLen) (hbase : base ≤ w.heap.size) {k : Nat} {ys : List Value} (hk : n + m = k) (hys : xs ++ news = ys)
    (h : ∀ A' c' w', w'.ownsRow base e size (.slice A' k c') k ys → w.grownBy w' (A0.map (·.block)) → (A'.map (·.block) = A0.map (·.block) ∨ A'.map (·.block) = some w.heap.size) → wpList P ops Q rest (a.put o.dst (.slice A' k c')) w') : wpList P ops Q (o :: rest) a w :=
  wpList_plain hgd fun _ hK => wp_append_wide w ht he hzs hsz ho hs hown hx hr h1 hbytes h63 hbase hk hys fun A' c' w' h2 h3 h4 => hK _ _ (h A' c' w' h2 h3 h4)
end
end Go.Proofs.YtlecglmiigdjlaaGreatDoor
