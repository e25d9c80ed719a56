/- The disk's Arm, Down, Size. -/
import Derived.Test.YtijgkejknijplaaDoorWrite
namespace Go.Proofs.YtijgkejknijplaaDoor
open Go.RowKit
set_option maxRecDepth 100000
set_option linter.unusedVariables false
set_option linter.unusedSimpArgs false
theorem DS.rearm {W : World} {L : Nat → Prop} {g : Nat} {D : Dk} {z s o cS cO : Nat} {Q : Option Addr} {nq cQ : Nat} {qs : List Wq} (h : DS W L g D z s o cS cO Q nq cQ qs) (a : Int) : DS (W.setCell ⟨g, 3, none⟩ (.int .i64 a)) L g { D with armed := a } z s o cS cO Q nq cQ qs :=
  h.flags (h.bx.set 3 _) (Only.set W ⟨g, 3, none⟩ _ rfl)
def ArmPost (W : World) (L : Nat → Prop) (g : Nat) (D : Dk) (z : Nat) (n : Int) (e : Ending) (w' : World) : Prop := e = .returned (errD (D.arm n).2) ∧ Aft W L g (D.arm n).1 z w'
theorem arm_any {L : Nat → Prop} {g : Nat} {D : Dk} {z : Nat} (n : Int) (w : World) (h : DX w L g D z) (hn : I64 n) :
    Calls Tryd.prog 22 #[.pointer (some ⟨g, 0, none⟩), .int .i64 n] w (ArmPost w L g D z n) := by
  obtain ⟨s, o, cS, cO, Q, nq, cQ, qs, h, hk⟩ := h
  have hok := hk.arm (n := n) hn.2
  unfold ArmPost
  unfold I64 at hn
  have c3 := h.c.2.2.2.1
  have f3 := h.bx.f 3
  have hlg := h.lg
  have H := Lib.hid h
  unfold Dk.arm at hok ⊢
  by_cases h0 : n < 0
  · rw [if_pos h0] at hok ⊢
    have hx := h.x hk
    clear h
    dsimp only
    rw [errD_ne (by decide)]
    go_enter Tryd.func22, Tryd.ntmps22
    go_wp2_with fail
    go_ret
    exact ⟨rfl, Aft.new hx (by first | exact Below.refl _ _ | exact (Below.refl _ _).drew)⟩
  · rw [if_neg h0] at hok ⊢
    dsimp only at hok ⊢
    rw [errD_nil]
    have Hok := Lib.hid hok
    clear hok h
    by_cases h1 : n < 4611686018427387904
    · have e1 : (if n < 4611686018427387904 then n + 1 else n) = n + 1 := if_pos h1
      have h2 := (H.out.rearm n).rearm (n + 1)
      have H2 := Lib.hid h2
      rw [e1] at Hok ⊢
      have hkk : Kept L w ((w.setCell ⟨g, 3, none⟩ (.int .i64 n)).setCell ⟨g, 3, none⟩ (.int .i64 (n + 1))) := ((Kept.refl L w).set hlg _).set hlg _
      have Hkk := Lib.hid hkk
      clear h2 hkk e1
      go_enter Tryd.func22, Tryd.ntmps22
      go_wp2_with fail
      go_ret
      exact ⟨rfl, L, H2.out.x Hok.out, fun b hb => .inl hb, Hkk.out⟩
    · have e1 : (if n < 4611686018427387904 then n + 1 else n) = n := if_neg h1
      have h2 := H.out.rearm n
      have H2 := Lib.hid h2
      rw [e1] at Hok ⊢
      have hkk : Kept L w (w.setCell ⟨g, 3, none⟩ (.int .i64 n)) := (Kept.refl L w).set hlg _
      have Hkk := Lib.hid hkk
      clear h2 hkk e1
      go_enter Tryd.func22, Tryd.ntmps22
      go_wp2_with fail
      go_ret
      exact ⟨rfl, L, H2.out.x Hok.out, fun b hb => .inl hb, Hkk.out⟩
theorem down_any {L : Nat → Prop} {g : Nat} {D : Dk} {z : Nat} (w : World) (h : DX w L g D z) :
    Calls Tryd.prog 23 #[.pointer (some ⟨g, 0, none⟩)] w (fun e w' => e = .returned (.bool D.off) ∧ w' = w) := by
  obtain ⟨s, o, cS, cO, Q, nq, cQ, qs, h, hk⟩ := h
  have c4 := h.c.2.2.2.2
  clear h
  go_enter Tryd.func23, Tryd.ntmps23
  go_wp2_with fail
  go_ret
  exact ⟨rfl, rfl⟩
theorem size_any {L : Nat → Prop} {g : Nat} {D : Dk} {z : Nat} (w : World) (h : DX w L g D z) :
    Calls Tryd.prog 30 #[.pointer (some ⟨g, 0, none⟩)] w (fun e w' => e = .returned (.int .i64 (z : Nat)) ∧ w' = w) := by
  obtain ⟨s, o, cS, cO, Q, nq, cQ, qs, h, hk⟩ := h
  have c0 := h.c.1
  clear h
  go_enter Tryd.func30, Tryd.ntmps30
  go_wp2_with fail
  go_ret
  exact ⟨rfl, rfl⟩
end Go.Proofs.YtijgkejknijplaaDoor
