/- Walks of the disk's functions: the place, the step, what New makes. -/
import Derived.Test.YtijgkejknijplaaDoorDs
namespace Go.Proofs.YtijgkejknijplaaDoor
open Go.RowKit
set_option maxRecDepth 100000
set_option linter.unusedVariables false
set_option linter.unusedSimpArgs false
def ErrPost (W : World) (k : Int) (e : Ending) (w' : World) : Prop := e = .returned (errD k) ∧ Below W.heap.size W w'
section
variable {L : Nat → Prop} {g : Nat} {D : Dk} {z s o cS cO : Nat} {Q : Option Addr} {nq cQ : Nat} {qs : List Wq}
set_option maxHeartbeats 1600000 in
theorem within_any (p n : Int) (hp : I64 p) (hn : I64 n) (w : World) (h : DS w L g D z s o cS cO Q nq cQ qs) :
    Calls Tryd.prog 26 #[.pointer (some ⟨g, 0, none⟩), .int .i64 p, .int .i64 n] w (ErrPost w (D.withE p n)) := by
  obtain ⟨k0, k1, k2, k3, k4⟩ := h.c
  have hz := h.z2
  unfold Dk.withE
  rw [h.slen]
  clear k1 k2 k3 h
  unfold I64 at hp hn
  by_cases h1 : p < 0
  · rw [if_pos (.inl h1)]
    go_enter Tryd.func26, Tryd.ntmps26
    go_wp2_with fail
    go_ret
    exact ⟨rfl, by first | exact Below.refl _ _ | exact (Below.refl _ _).drew⟩
  by_cases h2 : n < 0
  · rw [if_pos (.inr (.inl h2))]
    go_enter Tryd.func26, Tryd.ntmps26
    go_wp2_with fail
    go_ret
    exact ⟨rfl, by first | exact Below.refl _ _ | exact (Below.refl _ _).drew⟩
  by_cases h3 : (z : Int) < p
  · rw [if_pos (.inr (.inr (.inl h3)))]
    go_enter Tryd.func26, Tryd.ntmps26
    go_wp2_with fail
    go_ret
    exact ⟨rfl, by first | exact Below.refl _ _ | exact (Below.refl _ _).drew⟩
  have s1 : -9223372036854775808 ≤ (z : Int) - p := by omega
  have s2 : (z : Int) - p < 9223372036854775808 := by omega
  by_cases h4 : (z : Int) - p < n
  · rw [if_pos (.inr (.inr (.inr h4)))]
    go_enter Tryd.func26, Tryd.ntmps26
    go_wp2_with fail
    go_ret
    exact ⟨rfl, by first | exact Below.refl _ _ | exact (Below.refl _ _).drew⟩
  rw [if_neg (by omega)]
  cases ho : D.off
  · rw [ho] at k4
    go_enter Tryd.func26, Tryd.ntmps26
    go_wp2_with fail
    go_ret
    exact ⟨rfl, by first | exact Below.refl _ _ | exact (Below.refl _ _).drew⟩
  · rw [ho] at k4
    go_enter Tryd.func26, Tryd.ntmps26
    go_wp2_with fail
    go_ret
    exact ⟨rfl, by first | exact Below.refl _ _ | exact (Below.refl _ _).drew⟩
/-- One step: the disk, with its words of the power. -/
def StepPost (W : World) (L : Nat → Prop) (g : Nat) (D : Dk) (z s o cS cO : Nat) (Q : Option Addr) (nq cQ : Nat) (qs : List Wq) (e : Ending) (w' : World) : Prop := e = .returned (errD D.stepE) ∧ DS w' L g D.stepped z s o cS cO Q nq cQ qs ∧ Only g W w'
theorem step_any (w : World) (h : DS w L g D z s o cS cO Q nq cQ qs) (hk : D.Ok z) :
    Calls Tryd.prog 28 #[.pointer (some ⟨g, 0, none⟩)] w (StepPost w L g D z s o cS cO Q nq cQ qs) := by
  obtain ⟨k0, k1, k2, k3, k4⟩ := h.c
  have f3 := h.bx.f 3
  have f4 := h.bx.f 4
  have l0 := hk.lo
  have l1 := hk.hi
  have H := Lib.hid h
  unfold StepPost Dk.stepE Dk.stepped
  clear h hk k0 k1 k2
  by_cases h1 : D.armed = 1
  · rw [if_pos h1, if_pos h1]
    rw [h1] at k3
    go_enter Tryd.func28, Tryd.ntmps28
    go_wp2_with fail
    go_ret
    have ho : Only g w ((w.setCell ⟨g, 4, none⟩ (.bool true)).setCell ⟨g, 3, none⟩ (.int .i64 0)) := (Only.set w ⟨g, 4, none⟩ _ rfl).trans (Only.set _ ⟨g, 3, none⟩ _ rfl)
    exact ⟨rfl, H.out.flags ((H.out.bx.set 4 (.bool true)).set 3 (.int .i64 0)) ho, ho⟩
  · rw [if_neg h1, if_neg h1]
    by_cases h0 : D.armed = 0
    · rw [h0] at k3
      rw [h0]
      have hm : max (0 : Int) (0 - 1) = 0 := by decide
      rw [hm]
      go_enter Tryd.func28, Tryd.ntmps28
      go_wp2_with fail
      go_ret
      exact ⟨rfl, H.out.flags (H.out.bx.set 3 (.int .i64 0)) (Only.set _ _ _ rfl), Only.set _ _ _ rfl⟩
    · have hm : max (0 : Int) (D.armed - 1) = D.armed - 1 := by omega
      rw [hm]
      have l2 : 2 ≤ D.armed := by omega
      go_enter Tryd.func28, Tryd.ntmps28
      go_wp2_with fail
      go_ret
      exact ⟨rfl, H.out.flags (H.out.bx.set 3 (.int .i64 (D.armed - 1))) (Only.set _ _ _ rfl), Only.set _ _ _ rfl⟩
end
theorem bs_noughts (z : Nat) : (madeCells #[.int .u8 0] z).toList = bs (List.replicate z 0) := by
  rw [toList_madeCells_one]
  simp [bs]
theorem size_made (z : Nat) : (madeCells #[.int .u8 0] z).size = z * 1 := by
  rw [size_madeCells, Nat.mul_one]
theorem DS.made (w : World) (z s o : Nat) (h1 : 1 ≤ z) (h2 : z ≤ 4194304) (hso : (s = w.heap.size ∧ o = w.heap.size + 1) ∨ (s = w.heap.size + 1 ∧ o = w.heap.size)) :
    DS (((w.alloc (.cells (madeCells #[.int .u8 0] z) 5)).alloc (.cells (madeCells #[.int .u8 0] z) 5)).alloc (.cells #[.slice (some ⟨s, 0, none⟩) z z, .slice (some ⟨o, 0, none⟩) z z, .slice none 0 0, .int .i64 0, .bool false] 61))
      (fun b => w.heap.size ≤ b ∧ b < w.heap.size + 3) (w.heap.size + 2) (Dk.make z) z s o z z none 0 0 [] := by
  have o1 : ∀ ob, (((w.alloc (.cells (madeCells #[.int .u8 0] z) 5)).alloc (.cells (madeCells #[.int .u8 0] z) 5)).alloc ob).ownsRow 0 5 1 (.slice (some ⟨w.heap.size, 0, none⟩) z z) z (bs (List.replicate z 0)) := by
    intro ob
    rw [← bs_noughts]
    exact own_below (own_below (World.ownsRow_lit w _ z (Nat.zero_le _) (by unfold maxLen; omega) (size_made z)) ((Below.refl _ _).alloc (Nat.le_refl _) _)) ((Below.refl _ _).alloc (Nat.le_refl _) _)
  have o2 : ∀ ob, (((w.alloc (.cells (madeCells #[.int .u8 0] z) 5)).alloc (.cells (madeCells #[.int .u8 0] z) 5)).alloc ob).ownsRow 0 5 1 (.slice (some ⟨w.heap.size + 1, 0, none⟩) z z) z (bs (List.replicate z 0)) := by
    intro ob
    rw [← bs_noughts]
    have := World.ownsRow_lit (base := 0) (e := 5) (size := 1) (w.alloc (.cells (madeCells #[.int .u8 0] z) 5)) (madeCells #[.int .u8 0] z) z (Nat.zero_le _) (by unfold maxLen; omega) (size_made z)
    rw [World.size_alloc] at this
    exact own_below this ((Below.refl _ _).alloc (Nat.le_refl _) _)
  have key : ∀ s o, (s = w.heap.size ∧ o = w.heap.size + 1) ∨ (s = w.heap.size + 1 ∧ o = w.heap.size) → s < w.heap.size + 2 ∧ w.heap.size ≤ s ∧ o < w.heap.size + 2 ∧ w.heap.size ≤ o ∧ s ≠ o := by intro s o h; omega
  obtain ⟨q1, q2, q3, q4, q5⟩ := key s o hso
  refine ⟨Bx.new _ _ _ (by simp), ?_, ?_, own_nil _ _ _ _ _ rfl, (fun y hy => by cases hy), rfl, ⟨by omega, by omega⟩, ⟨q2, by omega⟩, ⟨q4, by omega⟩, (fun b hb => by cases hb), by omega, by omega, q5, (by intro h; cases h), (by intro h; cases h), (by intro h; cases h), (fun b hb => by simp; omega), h1, h2⟩
  · rcases hso with ⟨rfl, rfl⟩ | ⟨rfl, rfl⟩
    · exact o1 _
    · exact o2 _
  · rcases hso with ⟨rfl, rfl⟩ | ⟨rfl, rfl⟩
    · exact o2 _
    · exact o1 _
/-- What New makes. -/
def NewPost (W : World) (z : Nat) (e : Ending) (w' : World) : Prop := ∃ L g, e = .returned (.tuple #[.pointer (some ⟨g, 0, none⟩), .nilIface]) ∧ DX w' L g (Dk.make z) z ∧ (∀ b, L b → W.heap.size ≤ b) ∧ Below W.heap.size W w'
set_option maxHeartbeats 1600000 in
theorem new_any (z : Nat) (h1 : 1 ≤ z) (h2 : z ≤ 4194304) (w : World) : Calls Tryd.prog 8 #[.int .i64 z] w (NewPost w z) := by
  have g1 : ((z : Int) < 1) = False := by simp; omega
  have g2 : decide ((z : Int) < 1) = false := by simp; omega
  have g3 : decide ((4194304 : Int) < z) = false := by simp; omega
  obtain ⟨i, hi, hz, hsize, hby⟩ := info_parts u8_elem
  have hmk : ∀ w : World, (Instr.makeSlice 22 (.int .i64 (z : Int)) (.int .i64 (z : Int))).run Tryd.prog w = .ok (.slice (some ⟨w.heap.size, 0, none⟩) z z) (w.alloc (.cells (madeCells #[.int .u8 0] z) 5)) := by
    intro w
    have hr := run_make (P := Tryd.prog) w 22 5 i (.int .u8 0) Tryd.underlying22 hi hz .i64 .i64 z z (by omega) (Int.le_refl _) (by rw [hby]; omega) (by omega)
    simp only [Int.toNat_natCast, hsize, Nat.mul_one] at hr
    exact hr
  clear hi hz hsize hby
  go_enter Tryd.func8, Tryd.ntmps8
  go_wp2_with fail
  go_region
  all_goals
    go_wp2_with fail
    go_ret2
    have b3 : ∀ ob1 ob2 ob3, Below w.heap.size w (((w.drew.alloc ob1).alloc ob2).alloc ob3) := fun _ _ _ => (((Below.refl _ _).drew.alloc (Nat.le_refl _) _).alloc (by simp) _).alloc (by simp; omega) _
    first
      | exact ⟨_, _, rfl, (DS.made w.drew z _ _ h1 h2 (.inl ⟨rfl, rfl⟩)).x Dk.make_ok, (fun b hb => hb.1), b3 _ _ _⟩
      | exact ⟨_, _, rfl, (DS.made w.drew z _ _ h1 h2 (.inr ⟨rfl, rfl⟩)).x Dk.make_ok, (fun b hb => hb.1), b3 _ _ _⟩
/-- A remainder of a list. -/
theorem rest_any (A : Option Addr) (n c : Nat) (keep : List Int) (i m : Nat) (w : World) (hr : Rd w T 1 A n (ii keep)) (hk : ∀ x ∈ keep, I64 x) (hi : i ≤ 1) (hm : m ≤ 4194304) :
    Calls Tryd.prog 36 #[.slice A n c, .int .i64 i, .int .i64 (m + 1 : Nat)] w (fun e w' => e = .returned (.int .i64 (restL keep i (m + 1) : Nat)) ∧ w' = w) := by
  have hl : keep.length = n := by have := hr.1; simp [ii] at this; omega
  unfold restL
  by_cases h : n ≤ i
  · have h' : (n : Int) ≤ i := by omega
    rw [List.getElem?_eq_none (by omega)]
    go_enter Tryd.func36, Tryd.ntmps36
    go_wp2_with fail
    go_ret
    exact ⟨rfl, rfl⟩
  · obtain ⟨b, o, rfl, _, hb, hc⟩ := hr.plain (by omega) (by omega)
    obtain ⟨x, hx⟩ : ∃ x, keep[i]? = some x := ⟨_, List.getElem?_eq_getElem (by omega)⟩
    have hx' := hk x (List.mem_of_getElem? hx)
    have c0 : w.cell? ⟨b, o + i, none⟩ = some (.int .i64 x) := hc i _ (by simp [ii, hx])
    rw [hx]
    have hm1 : (0 : Int) < ((m + 1 : Nat) : Int) := by omega
    have r1 := Int.tmod_lt_of_pos x hm1
    have r2 : -((m + 1 : Nat) : Int) < x.tmod ((m + 1 : Nat) : Int) := by
      have := Int.lt_tmod_of_pos x hm1
      omega
    obtain ⟨t, ht⟩ : ∃ t, t = x.tmod ((m + 1 : Nat) : Int) := ⟨_, rfl⟩
    have e2 : (t + ((m + 1 : Nat) : Int)).tmod ((m + 1 : Nat) : Int) = ((x % ((m + 1 : Nat) : Int)).toNat : Int) := by
      rw [Int.toNat_of_nonneg (Int.emod_nonneg _ (by omega)), Int.tmod_eq_emod_of_nonneg (by omega), ht, Int.add_emod_right]
      rw [Int.tmod_def, Int.sub_emod, Int.mul_emod_right]
      simp
    obtain ⟨M, hM⟩ : ∃ M : Int, M = ((m + 1 : Nat) : Int) := ⟨_, rfl⟩
    rw [← hM] at ht e2 r1 r2 hm1 ⊢
    dsimp only
    rw [← ht] at r1 r2
    have hM2 : M ≤ 4194305 := by omega
    have hw1 : Int.tmod x M = t := ht.symm
    obtain ⟨res, hres⟩ : ∃ res : Nat, res = (x % M).toNat := ⟨_, rfl⟩
    rw [← hres] at e2 ⊢
    have hin : (i : Int) < n := by omega
    have hM0 : ¬ M = 0 := by omega
    have a1 : -9223372036854775808 ≤ t + M := by omega
    have a2 : t + M < 9223372036854775808 := by omega
    unfold I64 at hx'
    clear hres hM ht
    have E2 := Lib.hid e2
    have W1 := Lib.hid hw1
    go_enter Tryd.func36, Tryd.ntmps36
    go_wp2_with fail
    go_ret
    exact ⟨rfl, rfl⟩
end Go.Proofs.YtijgkejknijplaaDoor
