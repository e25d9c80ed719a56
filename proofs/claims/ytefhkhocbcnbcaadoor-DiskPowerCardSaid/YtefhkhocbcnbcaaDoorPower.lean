/- The law DiskPower, walked. -/
import Derived.Test.YtefhkhocbcnbcaaDoorPow
import Derived.Test.YtefhkhocbcnbcaaDoorArm
import Derived.Test.YtefhkhocbcnbcaaDoorSure
import Derived.Test.YtefhkhocbcnbcaaDoorNum
import Derived.Test.YtefhkhocbcnbcaaDoorArith
import Derived.Test.YtefhkhocbcnbcaaDoorBoolR
namespace Go.Proofs.YtefhkhocbcnbcaaDoor
open Go.RowKit
set_option maxRecDepth 100000
set_option linter.unusedVariables false
set_option linter.unusedSimpArgs false
attribute [local go_sem] convB
structure PowI (w : World) (n i g : Nat) (wr : World) : Prop where
  ex : ∃ U D, DX wr U g D 9 ∧ PowD n i D ∧ ∀ b, U b → w.heap.size ≤ b
  be : Below w.heap.size w wr
theorem powE_or (n i : Nat) : (i < n ∧ errD (powE n i) = .nilIface) ∨ (n ≤ i ∧ errD (powE n i) = .iface 56 (.int .i64 13)) := by
  unfold powE
  by_cases h : i < n
  · rw [if_pos h]; exact .inl ⟨h, rfl⟩
  · rw [if_neg h]; exact .inr ⟨by omega, errD_ne (by decide)⟩
/-- Behind the step i: the error, the disk. -/
structure PowS (w : World) (n i g : Nat) (wr : World) : Prop where
  ex : ∃ U D, DX wr U g D 9 ∧ PowD n (i + 1) D ∧ D.off = decide (n ≤ i) ∧ ∀ b, U b → w.heap.size ≤ b
  be : Below w.heap.size w wr
theorem pw_write {w wr W : World} {n i g : Nat} (h : PowI w n i g wr) (hi : i ≤ 100) (hb : Below wr.heap.size wr W) (hr : Rd W (wr.heap.size ≤ ·) 1 (some ⟨wr.heap.size, 0, none⟩) 1 (bs [120])) :
    Calls Tryd.prog 14 #[.pointer (some ⟨g, 0, none⟩), .int .i64 0, .slice (some ⟨wr.heap.size, 0, none⟩) 1 1] W (fun e w' => e = .returned (errD (powE n i)) ∧ PowS w n i g w') := by
  obtain ⟨U, D, h1, h2, h3⟩ := h.ex
  have hlt := h1.lt
  have hb2 := h.be.trans (hb.mono h.be.size)
  refine (write_any 0 _ 1 1 [120] W (h1.below hb) (hr.mono fun k hk hu => by have := hlt k hu; omega) (by unfold I64; omega) (by omega) (by have := h2.q; omega)).mono ?_
  rintro e w' ⟨rfl, U', k1, k2, k3⟩
  obtain ⟨q1, q2, q3⟩ := pow_write h2
  refine ⟨by rw [q1], ⟨⟨U', _, k1, q2, q3, fun b hb' => ?_⟩, hb2.trans (k3.below h3 hb2.size)⟩⟩
  rcases k2 b hb' with h7 | h7
  · exact h3 b h7
  · exact Nat.le_trans hb2.size h7
theorem pw_sync {w wr : World} {n i g : Nat} (h : PowI w n i g wr) (hi : i ≤ 100) :
    Calls Tryd.prog 15 #[.pointer (some ⟨g, 0, none⟩)] wr (fun e w' => e = .returned (errD (powE n i)) ∧ PowS w n i g w') := by
  obtain ⟨U, D, h1, h2, h3⟩ := h.ex
  refine (sync_any wr h1 (by have := h2.q; omega)).mono ?_
  rintro e w' ⟨rfl, U', k1, k2, k3⟩
  obtain ⟨q1, q2, q3⟩ := pow_sync h2
  refine ⟨by rw [q1], ⟨⟨U', _, k1, q2, q3, fun b hb' => ?_⟩, h.be.trans (k3.below h3 h.be.size)⟩⟩
  rcases k2 b hb' with h7 | h7
  · exact h3 b h7
  · exact Nat.le_trans h.be.size h7
theorem pw_down {w wr : World} {n i g : Nat} (h : PowS w n i g wr) :
    Calls Tryd.prog 10 #[.pointer (some ⟨g, 0, none⟩)] wr (fun e w' => e = .returned (.bool (decide (n ≤ i))) ∧ w' = wr) := by
  obtain ⟨U, D, h1, h2, h3, h4⟩ := h.ex
  have := down_any wr h1
  rw [h3] at this
  exact this
theorem PowS.next {w wr W : World} {n i g : Nat} (h : PowS w n i g wr) (hb : Below wr.heap.size wr W) : PowI w n (i + 1) g W := by
  obtain ⟨U, D, h1, h2, h3, h4⟩ := h.ex
  exact ⟨⟨U, D, h1.below hb, h2, h4⟩, h.be.trans (hb.mono h.be.size)⟩
/-- The end: the power is back, all is well. -/
theorem pw_start {w wr : World} {n i g : Nat} (h : PowI w n i g wr) (hi : i ≤ 100) :
    Calls Tryd.prog 17 #[.pointer (some ⟨g, 0, none⟩), .slice none 0 0] wr (fun e w' => e = .returned (.tuple #[]) ∧ Below w.heap.size w w' ∧ ∃ U D, DX w' U g D 9 ∧ D.off = false ∧ D.q = [] ∧ (D.write 0 []).2 = 0 ∧ (D.write 0 []).1.sync.2 = 0 ∧ (D.write 0 []).1.q.length ≤ 1 ∧ ∀ b, U b → w.heap.size ≤ b) := by
  obtain ⟨U, D, h1, h2, h3⟩ := h.ex
  refine (start_any none 0 0 [] wr h1 Rd.none_ (fun _ h => by cases h) (by have := h2.q; omega)).mono ?_
  rintro e w' ⟨rfl, U', k1, k2, k3⟩
  obtain ⟨q1, q2, q3, q4, q5⟩ := pow_end h2
  refine ⟨rfl, h.be.trans (k3.below h3 h.be.size), U', _, k1, q1, q2, q3, q4, q5, fun b hb' => ?_⟩
  rcases k2 b hb' with h7 | h7
  · exact h3 b h7
  · exact Nat.le_trans h.be.size h7
set_option maxHeartbeats 6400000 in
theorem power_walk (st : Int) (A : Option Addr) (n c : Nat) (L : List Bool) (w : World) (hr : Rd w T 1 A n (flat boolc L)) (hg : ErrT w) :
    Calls Tryd.prog 4 #[.int .i64 st, .slice A n c] w (YesPost w) := by
  have hnew : Calls Tryd.prog 6 #[.int .i64 9] w (NewPost w 9) := new_any 9 (by omega) (by omega) w
  obtain ⟨K, hK, -, hK1, hK2⟩ := uint_mod st 20 20 rfl (by omega) (by omega)
  have Hr := Lib.hid hr
  have Hg := Lib.hid hg
  have hw0 := hg.lt
  clear hr hg
  go_enter Tryd.func4, Tryd.ntmps4
  go_wp2_with fail
  refine hnew.mono ?_
  rintro e w1 ⟨U, g, rfl, hx, hU, hb1⟩
  have harm := arm_any (K : Int) w1 hx (by unfold I64; omega)
  unfold ArmPost at harm
  obtain ⟨a1, a2⟩ := pow_start (n := K) (by omega)
  rw [a1] at harm
  have Harm := Lib.hid harm
  have Ha2 := Lib.hid a2
  have HU := Lib.hid hU
  have Hb1 := Lib.hid hb1
  clear hx hU hb1 harm a1 a2 hnew
  go_wp2_with fail
  refine Harm.out.mono ?_
  rintro e w2 ⟨rfl, U', k1, k2, k3⟩
  rw [errD_nil]
  have hi0 : PowI w K 0 g w2 := ⟨⟨U', _, k1, Ha2.out, fun b hb => by
    rcases k2 b hb with h | h
    · exact HU.out b h
    · exact Nat.le_trans Hb1.out.size h⟩, Hb1.out.trans (k3.below HU.out Hb1.out.size)⟩
  have Hi0 := Lib.hid hi0
  clear k1 k2 k3 hi0 hK1 hK2
  go_wp2_with fail
  go_loopg [8] 30 (fun m s8 wr => ∃ i, m = 30 - i ∧ i ≤ 30 ∧ s8 = .int .i64 (i : Nat) ∧ PowI w K i g wr)
  case atStart => exact ⟨0, by omega, by omega, rfl, Hi0.out⟩
  case round =>
    obtain ⟨i, hm, hi, rfl, hp⟩ := hrel
    have Hm := Lib.hid hm
    have Hp := Lib.hid hp
    clear hm hp
    obtain ⟨wq, rfl⟩ : ∃ wq, wq = wr := ⟨_, rfl⟩
    go_upto_region 6 with (fail)
    go_cut [37] (fun s37 W => s37 = .bool (decide (i < n ∧ i < 30)) ∧ W = wq)
    case first =>
      by_cases h1 : i < n
      · have h1I : (i : Int) < n := by omega
        by_cases h2 : i < 30
        · have h2I : (i : Int) < 30 := by omega
          go_wp2_with fail
          go_meet
          case rel => exact ⟨by simp [h1, h2], rfl⟩
        · have h2d : decide ((i : Int) < 30) = false := by simp; omega
          go_wp2_with fail
          go_meet
          case rel => exact ⟨by simp [h1, h2], rfl⟩
      · have h1d : decide ((i : Int) < n) = false := by simp; omega
        go_wp2_with fail
        go_meet
        case rel => exact ⟨by simp [h1], rfl⟩
    case rest =>
    obtain ⟨rfl, rfl⟩ := hcut
    by_cases hlt : i < n ∧ i < 30
    · have hd37 : decide (i < n ∧ i < 30) = true := by simp [hlt]
      rw [hd37]
      obtain ⟨hin, hi30⟩ := hlt
      obtain ⟨b, o, kb, rfl, hx, c0⟩ := bool_cells (Hr.out.below Hp.out.be) hin
      have hinI : (i : Int) < n := by omega
      have h0i : (0 : Int) ≤ i := by omega
      clear hx
      cases kb with
      | true =>
        have hw := fun W hb hr => pw_write (W := W) Hp.out (by omega) hb hr
        have Hw := Lib.hid hw
        clear hw
        go_wp2_with fail
        refine (Hw.out _ ((Below.refl _ _).alloc (Nat.le_refl _) _) (Rd.lit rfl)).mono ?_
        rintro e w2 ⟨rfl, hs2⟩
        clear c0
        rcases powE_or K i with ⟨hE, eE⟩ | ⟨hE, eE⟩
        · rw [eE]
          have hdn := pw_down hs2
          have hEI : (i : Int) < K := by omega
          have hE1 : decide (K ≤ i) = false := by simp; omega
          rw [hE1] at hdn
          have Hs2 := Lib.hid hs2
          clear hs2
          go_wp2_with fail
          refine hdn.mono ?_
          rintro e w3 ⟨rfl, rfl⟩
          go_wp2_with fail
          go_roundg (30 - (i + 1))
          case measure => have := Hm.out; omega
          case rel => exact ⟨i + 1, rfl, by omega, by go_num, Hs2.out.next (Below.refl _ _)⟩
        · rw [eE]
          have hdn := pw_down hs2
          have hEd : decide ((i : Int) < K) = false := by simp; omega
          have hEI : (K : Int) ≤ i := by omega
          have hE1 : decide (K ≤ i) = true := by simp; omega
          rw [hE1] at hdn
          have hnum := fun w4 (hb : Below w2.heap.size w2 w4) => num_err 13 w4 ((Hg.out.under (hs2.be.trans (hb.mono hs2.be.size)) hw0))
          have Hnum := Lib.hid hnum
          have Hs2 := Lib.hid hs2
          clear hs2 hnum
          go_wp2_with fail
          refine hdn.mono ?_
          rintro e w3 ⟨rfl, rfl⟩
          go_wp2_with fail
          refine (Hnum.out _ (Below.refl _ _)).mono ?_
          rintro e w4 ⟨rfl, hb4⟩
          have Hb4 := Lib.hid hb4
          clear hb4
          go_wp2_with fail
          go_roundg (30 - (i + 1))
          case measure => have := Hm.out; omega
          case rel => exact ⟨i + 1, rfl, by omega, by go_num, Hs2.out.next Hb4.out⟩
      | false =>
        have hw := pw_sync Hp.out (by omega)
        have Hw := Lib.hid hw
        clear hw
        go_wp2_with fail
        refine Hw.out.mono ?_
        rintro e w2 ⟨rfl, hs2⟩
        clear c0
        rcases powE_or K i with ⟨hE, eE⟩ | ⟨hE, eE⟩
        · rw [eE]
          have hdn := pw_down hs2
          have hEI : (i : Int) < K := by omega
          have hE1 : decide (K ≤ i) = false := by simp; omega
          rw [hE1] at hdn
          have Hs2 := Lib.hid hs2
          clear hs2
          go_wp2_with fail
          refine hdn.mono ?_
          rintro e w3 ⟨rfl, rfl⟩
          go_wp2_with fail
          go_roundg (30 - (i + 1))
          case measure => have := Hm.out; omega
          case rel => exact ⟨i + 1, rfl, by omega, by go_num, Hs2.out.next (Below.refl _ _)⟩
        · rw [eE]
          have hdn := pw_down hs2
          have hEd : decide ((i : Int) < K) = false := by simp; omega
          have hEI : (K : Int) ≤ i := by omega
          have hE1 : decide (K ≤ i) = true := by simp; omega
          rw [hE1] at hdn
          have hnum := fun w4 (hb : Below w2.heap.size w2 w4) => num_err 13 w4 ((Hg.out.under (hs2.be.trans (hb.mono hs2.be.size)) hw0))
          have Hnum := Lib.hid hnum
          have Hs2 := Lib.hid hs2
          clear hs2 hnum
          go_wp2_with fail
          refine hdn.mono ?_
          rintro e w3 ⟨rfl, rfl⟩
          go_wp2_with fail
          refine (Hnum.out _ (Below.refl _ _)).mono ?_
          rintro e w4 ⟨rfl, hb4⟩
          have Hb4 := Lib.hid hb4
          clear hb4
          go_wp2_with fail
          go_roundg (30 - (i + 1))
          case measure => have := Hm.out; omega
          case rel => exact ⟨i + 1, rfl, by omega, by go_num, Hs2.out.next Hb4.out⟩
    · have hd37 : decide (i < n ∧ i < 30) = false := by simp only [hlt]; rfl
      rw [hd37]
      have hst := pw_start Hp.out (by omega)
      have Hst := Lib.hid hst
      clear hst hlt
      go_wp2_with fail
      refine Hst.out.mono ?_
      rintro e w3 ⟨rfl, hb3, U3, D3, d1, d2, d3, d4, d5, d6, d7⟩
      have hdn := down_any w3 d1
      rw [d2] at hdn
      have hwt := waits_any w3 d1
      rw [d3] at hwt
      have Hwt := Lib.hid hwt
      have Hb3 := Lib.hid hb3
      have hwr := fun w4 (hb : Below w3.heap.size w3 w4) => write_any 0 none 0 0 [] w4 (d1.below hb) Rd.none_ (by unfold I64; omega) (by omega) (by rw [d3]; exact Nat.zero_le _)
      unfold WritePost at hwr
      rw [d4] at hwr
      have Hwr := Lib.hid hwr
      have D5 := Lib.hid d5
      have D6 := Lib.hid d6
      have D7 := Lib.hid d7
      clear d1 d2 d3 d4 d5 d6 d7 hwt hb3 hwr
      go_wp2_with fail
      refine hdn.mono ?_
      rintro e w4 ⟨rfl, rfl⟩
      clear hdn
      go_wp2_with fail
      refine Hwt.out.mono ?_
      rintro e w5 ⟨rfl, hb5⟩
      have hb35 := Hb3.out.trans (hb5.mono Hb3.out.size)
      have hwr5 := Hwr.out w5 hb5
      have Hwr5 := Lib.hid hwr5
      have Hb35 := Lib.hid hb35
      clear hb5 hb35 hwr5 Hwt Hwr
      go_wp2_with fail
      refine Hwr5.out.mono ?_
      rintro e w6 ⟨rfl, U6, j1, j2, j3⟩
      rw [errD_nil]
      have hb6 := Hb35.out.trans (j3.below D7.out Hb35.out.size)
      have hsy := sync_any w6 j1 (by have := D6.out; omega)
      unfold SyncPost at hsy
      rw [D5.out] at hsy
      have hU6 : ∀ b, U6 b → w.heap.size ≤ b := fun b hb => by
        rcases j2 b hb with h | h
        · exact D7.out b h
        · exact Nat.le_trans Hb35.out.size h
      have HU6 := Lib.hid hU6
      have Hb6 := Lib.hid hb6
      have Hsy := Lib.hid hsy
      clear j1 j2 j3 hb6 hsy hU6
      go_wp2_with fail
      refine Hsy.out.mono ?_
      rintro e w7 ⟨rfl, U7, j1, j2, j3⟩
      rw [errD_nil]
      have hb7 := Hb6.out.trans (j3.below HU6.out Hb6.out.size)
      have hsure := sure_any w7
      have Hb7 := Lib.hid hb7
      have Hsure := Lib.hid hsure
      clear hb7 hsure j1 j2 j3
      go_wp2_with fail
      refine Hsure.out.mono ?_
      rintro e w8 ⟨rfl, hb8⟩
      go_wp2_with fail
      go_ret
      exact ⟨rfl, Hb7.out.trans (hb8.mono Hb7.out.size)⟩
end Go.Proofs.YtefhkhocbcnbcaaDoor
