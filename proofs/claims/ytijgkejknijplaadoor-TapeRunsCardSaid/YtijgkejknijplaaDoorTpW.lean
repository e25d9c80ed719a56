/- A tape in memory; walks of place, Room, Len, alive, write. -/
import Derived.Test.YtijgkejknijplaaDoorTp
import Derived.Test.YtijgkejknijplaaDoorWrite
import Derived.BigQuiet
namespace Go.Proofs.YtijgkejknijplaaDoor
open Go.RowKit
set_option maxRecDepth 100000
set_option linter.unusedVariables false
set_option linter.unusedSimpArgs false
def tcells (g : Nat) (t : Tp) : Array Value := #[.pointer (some ⟨g, 0, none⟩), .int .i64 (t.en : Nat), .int .i64 (t.fr : Nat), .int .i64 (t.p : Nat), .int .i64 (t.n : Nat), errD t.dead]
/-- A tape at tg, on the disk at g. -/
structure TDX (W : World) (L : Nat → Prop) (tg g : Nat) (t : Tp) (D : Dk) (z : Nat) : Prop where
  dx : DX W L g D z
  bx : Bx W tg (tcells g t)
  nl : ¬ L tg
  ok : t.Ok z
def AftT (W : World) (L : Nat → Prop) (tg g : Nat) (t : Tp) (D : Dk) (z : Nat) (w' : World) : Prop := ∃ L', TDX w' L' tg g t D z ∧ (∀ b, L' b → L b ∨ W.heap.size ≤ b) ∧ Kept (fun b => L b ∨ b = tg) W w'
section
variable {W W' W2 : World} {L L' : Nat → Prop} {tg g : Nat} {t t' : Tp} {D D' : Dk} {z : Nat}
theorem DX.z2 (h : DX W L g D z) : z ≤ 4194304 := by
  obtain ⟨_, _, _, _, _, _, _, _, h, _⟩ := h
  exact h.z2
theorem TDX.c (h : TDX W L tg g t D z) : W.cell? ⟨tg, 0, none⟩ = some (.pointer (some ⟨g, 0, none⟩)) ∧ W.cell? ⟨tg, 1, none⟩ = some (.int .i64 (t.en : Nat)) ∧ W.cell? ⟨tg, 2, none⟩ = some (.int .i64 (t.fr : Nat)) ∧ W.cell? ⟨tg, 3, none⟩ = some (.int .i64 (t.p : Nat)) ∧ W.cell? ⟨tg, 4, none⟩ = some (.int .i64 (t.n : Nat)) ∧ W.cell? ⟨tg, 5, none⟩ = some (errD t.dead) := ⟨h.bx.c 0, h.bx.c 1, h.bx.c 2, h.bx.c 3, h.bx.c 4, h.bx.c 5⟩
theorem TDX.lt (h : TDX W L tg g t D z) : tg < W.heap.size := h.bx.lt
theorem TDX.keep (h : TDX W L tg g t D z) (hk : ∀ b, L b ∨ b = tg → W'.heap[b]? = W.heap[b]?) (hz : W.heap.size ≤ W'.heap.size) : TDX W' L tg g t D z := ⟨h.dx.keep (fun b hb => hk b (.inl hb)) hz, h.bx.keep (hk tg (.inr rfl)), h.nl, h.ok⟩
theorem TDX.below (h : TDX W L tg g t D z) (hb : Below W.heap.size W W') : TDX W' L tg g t D z := ⟨h.dx.below hb, h.bx.below hb, h.nl, h.ok⟩
theorem TDX.drew (h : TDX W L tg g t D z) : TDX W.drew L tg g t D z := h.keep (fun _ _ => rfl) (Nat.le_refl _)
theorem TDX.drewN (h : TDX W L tg g t D z) (k : Nat) : TDX (W.drewN k) L tg g t D z := h.keep (fun _ _ => rfl) (Nat.le_refl _)
/-- The disk alone has gone on. -/
theorem TDX.aft (h : TDX W L tg g t D z) (ha : Aft W L g D' z W') : ∃ L', TDX W' L' tg g t D' z ∧ (∀ b, L' b → L b ∨ W.heap.size ≤ b) ∧ Kept L W W' := by
  obtain ⟨L', h1, h2, h3⟩ := ha
  refine ⟨L', ⟨h1, h3.bx h.bx h.nl, fun hl => ?_, h.ok⟩, h2, h3⟩
  rcases h2 _ hl with h4 | h4
  · exact h.nl h4
  · have := h.lt
    omega
theorem TDX.set (h : TDX W L tg g t D z) {i : Nat} {v : Value} (hb : (tcells g t).setIfInBounds i v = tcells g t') (hok : t'.Ok z) : TDX (W.setCell ⟨tg, i, none⟩ v) L tg g t' D z :=
  ⟨h.dx.keep (fun b hb => Below.heap_setCell _ _ _ b (fun e => h.nl (by rw [← show b = tg from e]; exact hb))) (by simp [World.setCell]), hb ▸ h.bx.set i v, h.nl, hok⟩
theorem AftT.refl (h : TDX W L tg g t D z) : AftT W L tg g t D z W := ⟨L, h, fun b hb => .inl hb, Kept.refl _ _⟩
theorem AftT.new {w : World} (h : TDX W L tg g t D z) (hb : Below W.heap.size W w) : AftT W L tg g t D z w := ⟨L, h.below hb, fun b hb => .inl hb, Kept.of_new hb⟩
theorem Kept.or (h : Kept L W W') : Kept (fun b => L b ∨ b = tg) W W' := ⟨h.os, h.tape, h.output, h.size, fun i hi hu => h.block i hi fun hl => hu (.inl hl)⟩
theorem AftT.next (h : Kept (fun b => L b ∨ b = tg) W W') (hl : ∀ b, L' b → L b ∨ W.heap.size ≤ b) (h2 : AftT W' L' tg g t D z W2) : AftT W L tg g t D z W2 := by
  obtain ⟨L2, k1, k2, k3⟩ := h2
  refine ⟨L2, k1, fun b hb => ?_, h.trans k3 fun b hb h3 => ?_⟩
  · rcases k2 b hb with h3 | h3
    · exact hl b h3
    · exact .inr (Nat.le_trans h.size h3)
  · rcases h3 with h3 | h3
    · rcases hl b h3 with h4 | h4
      · exact .inl h4
      · omega
    · exact .inr h3
/-- A call that leaves the disk, the tape as they were. -/
theorem AftT.behind {w : World} (hb : Below W.heap.size W W') (h2 : AftT W' L tg g t D z w) : AftT W L tg g t D z w := AftT.next (L' := L) (Kept.of_new hb) (fun b hb => .inl hb) h2
theorem place_any (w : World) (h : TDX w L tg g t D z) : Calls Tryd.prog 31 #[.pointer (some ⟨tg, 0, none⟩)] w (fun e w' => e = .returned (.bool (decide (t.p + 5 ≤ t.en))) ∧ ∃ k, w' = w.drewN k) := by
  obtain ⟨c0, c1, c2, c3, c4, c5⟩ := h.c
  have hz := h.dx.z2
  obtain ⟨o1, o2, o3, o4⟩ := h.ok
  have e1 : decide (t.p + 5 ≤ t.en) = decide ((5 : Int) ≤ (t.en : Int) - (t.p : Int)) := by
    apply Bool.eq_iff_iff.2
    simp only [decide_eq_true_eq]
    omega
  have s1 : -9223372036854775808 ≤ (t.en : Int) - t.p := by omega
  have s2 : (t.en : Int) - t.p < 9223372036854775808 := by omega
  rw [e1]
  clear c0 c2 c4 c5 h e1
  go_enter Tryd.func31, Tryd.ntmps31
  go_wp2_with fail
  go_quiet (fail)
  go_wp2_with fail
  go_ret
  exact ⟨rfl, _, rfl⟩
theorem len_any (w : World) (h : TDX w L tg g t D z) : Calls Tryd.prog 15 #[.pointer (some ⟨tg, 0, none⟩)] w (fun e w' => e = .returned (.int .i64 (t.n : Nat)) ∧ w' = w) := by
  obtain ⟨c0, c1, c2, c3, c4, c5⟩ := h.c
  clear c0 c1 c2 c3 c5 h
  go_enter Tryd.func15, Tryd.ntmps15
  go_wp2_with fail
  go_ret
  exact ⟨rfl, rfl⟩
theorem alive_any (w : World) (h : TDX w L tg g t D z) : Calls Tryd.prog 34 #[.pointer (some ⟨tg, 0, none⟩)] w (fun e w' => e = .returned (errD t.dead) ∧ w' = w) := by
  obtain ⟨c0, c1, c2, c3, c4, c5⟩ := h.c
  clear c0 c1 c2 c3 c4 h
  go_enter Tryd.func34, Tryd.ntmps34
  go_wp2_with fail
  go_ret
  exact ⟨rfl, rfl⟩
theorem room_any (w : World) (h : TDX w L tg g t D z) : Calls Tryd.prog 16 #[.pointer (some ⟨tg, 0, none⟩)] w (fun e w' => e = .returned (.int .i64 t.room) ∧ ∃ k, w' = w.drewN k) := by
  have hp := place_any w h
  have hc := h.c
  have hz := h.dx.z2
  obtain ⟨o1, o2, o3, o4⟩ := h.ok
  unfold Tp.room
  have Hc := Lib.hid hc
  clear hc h
  by_cases h1 : t.p + 5 ≤ t.en
  · have e1 : decide (t.p + 5 ≤ t.en) = true := by simp [h1]
    rw [e1] at hp
    rw [if_pos h1]
    have s1 : -9223372036854775808 ≤ (t.en : Int) - t.p := by omega
    have s2 : (t.en : Int) - t.p < 9223372036854775808 := by omega
    have s3 : -9223372036854775808 ≤ (t.en : Int) - t.p - 5 := by omega
    have s4 : (t.en : Int) - t.p - 5 < 9223372036854775808 := by omega
    go_enter Tryd.func16, Tryd.ntmps16
    go_wp2_with fail
    refine hp.mono ?_
    rintro e w1 ⟨rfl, k, rfl⟩
    obtain ⟨c0, c1, c2, c3, c4, c5⟩ := Hc.out
    go_wp2_with fail
    go_quiet (fail)
    go_wp2_with fail
    go_ret
    exact ⟨rfl, _, World.drewN_drewN ..⟩
  · have e1 : decide (t.p + 5 ≤ t.en) = false := by simp [h1]
    rw [e1] at hp
    rw [if_neg h1]
    go_enter Tryd.func16, Tryd.ntmps16
    go_wp2_with fail
    refine hp.mono ?_
    rintro e w1 ⟨rfl, k, rfl⟩
    go_wp2_with fail
    go_ret
    exact ⟨rfl, _, rfl⟩
theorem write_q (D : Dk) (p : Int) (b : List UInt8) : (D.write p b).1.q.length ≤ D.q.length + 1 := by
  unfold Dk.write
  split
  · have : (D.put p.toNat b).stepped.q = (D.put p.toNat b).q := by unfold Dk.stepped; split <;> rfl
    dsimp only
    rw [this]
    simp [Dk.put]
  · exact Nat.le_succ _
theorem errD_is (k : Int) : errD k = .nilIface ∨ errD k = .iface 58 (.int .i64 k) := by unfold errD; split; exact .inl rfl; exact .inr rfl
theorem tset5 {t : Tp} {g : Nat} (k : Int) : (tcells g t).setIfInBounds 5 (errD k) = tcells g { t with dead := k } := rfl
theorem Tp.Ok.dead {t : Tp} {z : Nat} (h : t.Ok z) (k : Int) : Tp.Ok { t with dead := k } z := ⟨h.fp, h.pe, h.ez, h.n5⟩
theorem Dk.safely_no {D : Dk} {p : Int} {b : List UInt8} (h : (D.write p b).2 ≠ 0) : D.safely p b = D.write p b := by unfold Dk.safely; rw [if_neg h]
theorem Dk.safely_yes {D : Dk} {p : Int} {b : List UInt8} (h : (D.write p b).2 = 0) : D.safely p b = (D.write p b).1.sync := by unfold Dk.safely; rw [if_pos h]
def TWPost (W : World) (L : Nat → Prop) (tg g : Nat) (t : Tp) (D : Dk) (z : Nat) (p : Int) (b : List UInt8) (e : Ending) (w' : World) : Prop := e = .returned (errD (D.safely p b).2) ∧ AftT W L tg g { t with dead := (D.safely p b).2 } (D.safely p b).1 z w'
set_option maxHeartbeats 800000 in
theorem twrite_any (p : Int) (A : Option Addr) (n c : Nat) (b : List UInt8) (w : World) (h : TDX w L tg g t D z) (hr : Rd w (fun k => ¬ L k) 1 A n (bs b)) (hp : I64 p) (hn : (n : Int) ≤ 9223372036854775807) (hnq : D.q.length ≤ 999999) :
    Calls Tryd.prog 35 #[.pointer (some ⟨tg, 0, none⟩), .int .i64 p, .slice A n c] w (TWPost w L tg g t D z p b) := by
  obtain ⟨c0, c1, c2, c3, c4, c5⟩ := h.c
  have hw := write_any p A n c b w h.dx hr hp hn (by omega)
  have hq1 := write_q D p b
  unfold WritePost at hw
  have H := Lib.hid h
  unfold TWPost
  by_cases h0 : (D.write p b).2 = 0
  · rw [Dk.safely_yes h0]
    rw [h0, errD_nil] at hw
    obtain ⟨D1, hD1⟩ : ∃ D1, D1 = (D.write p b).1 := ⟨_, rfl⟩
    rw [← hD1] at hw hq1 ⊢
    obtain ⟨k, hk⟩ : ∃ k, k = D1.sync.2 := ⟨_, rfl⟩
    rw [← hk]
    have Hk := Lib.hid hk
    have hV := errD_is k
    obtain ⟨V, hVk⟩ : ∃ V, V = errD k := ⟨_, rfl⟩
    rw [← hVk] at hV ⊢
    have HVk := Lib.hid hVk
    clear hr h h0 hD1 c1 c2 c3 c4 c5 hk hVk
    rcases hV with rfl | rfl
    all_goals
      go_enter Tryd.func35, Tryd.ntmps35
      go_wp2_with fail
      refine hw.mono ?_
      rintro e w1 ⟨rfl, haft⟩
      obtain ⟨L1, h1, k1, k2⟩ := H.out.aft haft
      obtain ⟨d0, d1, d2, d3, d4, d5⟩ := h1.c
      have f5 := h1.bx.f 5
      have h2 : TDX (w1.setCell ⟨tg, 5, none⟩ .nilIface) L1 tg g { t with dead := 0 } D1 z := h1.set (tset5 0) (h1.ok.dead 0)
      obtain ⟨e0, e1, e2, e3, e4, e5⟩ := h2.c
      have e5' : (w1.setCell ⟨tg, 5, none⟩ .nilIface).cell? ⟨tg, 5, none⟩ = some .nilIface := e5
      clear e5
      have f5' := h2.bx.f 5
      have hs := sync_any _ h2.dx (by omega)
      unfold SyncPost at hs
      rw [← Hk.out, ← HVk.out] at hs
      have Hs := Lib.hid hs
      have H2 := Lib.hid h2
      have K1 := Lib.hid k1
      have K2 := Lib.hid k2
      clear hw haft h1 hs h2 k1 k2 d1 d2 d3 d4 e1 e2 e3 e4 hq1
      go_wp2_with fail
      refine Hs.out.mono ?_
      rintro e w2 ⟨rfl, haft⟩
      obtain ⟨L2, h3, k3, k4⟩ := H2.out.aft haft
      obtain ⟨b0, b1, b2, b3, b4, b5⟩ := h3.c
      have g5 := h3.bx.f 5
      have h4 : TDX (w2.setCell ⟨tg, 5, none⟩ (errD k)) L2 tg g { t with dead := k } D1.sync.1 z := h3.set (tset5 k) (h3.ok.dead k)
      have y5 : (w2.setCell ⟨tg, 5, none⟩ (errD k)).cell? ⟨tg, 5, none⟩ = some (errD k) := h4.bx.c 5
      have hfin : AftT w L tg g { t with dead := k } D1.sync.1 z (w2.setCell ⟨tg, 5, none⟩ (errD k)) := by
        refine AftT.next (L' := L1) (W' := w1.setCell ⟨tg, 5, none⟩ .nilIface) ((K2.out.or).set (p := ⟨tg, 5, none⟩) (.inr rfl) _) K1.out ?_
        exact ⟨L2, h4, k3, (k4.or).set (p := ⟨tg, 5, none⟩) (.inr rfl) _⟩
      rw [← HVk.out] at hfin y5
      have Hfin := Lib.hid hfin
      clear haft h3 k3 k4 h4 hfin b1 b2 b3 b4
      go_wp2_with fail
      go_ret
      exact ⟨rfl, Hfin.out⟩
  · rw [Dk.safely_no h0]
    obtain ⟨k, hk⟩ : ∃ k, k = (D.write p b).2 := ⟨_, rfl⟩
    obtain ⟨D1, hD1⟩ : ∃ D1, D1 = (D.write p b).1 := ⟨_, rfl⟩
    rw [← hk] at h0 hw ⊢
    rw [← hD1] at hw ⊢
    rw [errD_ne h0] at hw ⊢
    clear hr h hD1 c1 c2 c3 c4 c5 hk hq1
    go_enter Tryd.func35, Tryd.ntmps35
    go_wp2_with fail
    refine hw.mono ?_
    rintro e w1 ⟨rfl, haft⟩
    obtain ⟨L1, h1, k1, k2⟩ := H.out.aft haft
    obtain ⟨d0, d1, d2, d3, d4, d5⟩ := h1.c
    have f5 := h1.bx.f 5
    have h2 : TDX (w1.setCell ⟨tg, 5, none⟩ (errD k)) L1 tg g { t with dead := k } D1 z := h1.set (tset5 k) (h1.ok.dead k)
    rw [errD_ne h0] at h2
    obtain ⟨e0, e1, e2, e3, e4, e5⟩ := h2.c
    rw [errD_ne h0] at e5
    have f5' := h2.bx.f 5
    have hfin : AftT w L tg g { t with dead := k } D1 z (w1.setCell ⟨tg, 5, none⟩ (.iface 58 (.int .i64 k))) := ⟨L1, h2, k1, (k2.or).set (p := ⟨tg, 5, none⟩) (.inr rfl) _⟩
    have Hfin := Lib.hid hfin
    clear haft h1 k1 k2 h2 hfin d1 d2 d3 d4 e1 e2 e3 e4 hw
    go_wp2_with fail
    go_ret
    exact ⟨rfl, Hfin.out⟩
end
end Go.Proofs.YtijgkejknijplaaDoor
