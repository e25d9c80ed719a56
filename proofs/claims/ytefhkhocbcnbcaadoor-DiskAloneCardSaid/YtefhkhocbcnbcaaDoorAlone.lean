/- The law DiskAlone, walked. -/
import Derived.Test.YtefhkhocbcnbcaaDoorAl
import Derived.Test.YtefhkhocbcnbcaaDoorClD
import Derived.Deep.LoopGhost
namespace Go.Proofs.YtefhkhocbcnbcaaDoor
open Go.RowKit
set_option maxRecDepth 100000
set_option linter.unusedVariables false
set_option linter.unusedSimpArgs false
theorem Al1.start {w w1 w2 : World} {L : Nat → Prop} {g z : Nat} {BA LA : Option Addr} {bn bc ln lc : Nat} {ls : List Wq} (hd : DX w1 L g (Dk.make z) z) (hL : ∀ b, L b → w.heap.size ≤ b) (hb1 : Below w.heap.size w w1) (hb2 : Below w1.heap.size w1 w2) (hx : RS w2 (w1.heap.size ≤ ·) (R3.make z) BA bn bc LA ln lc ls) :
    ∃ ok, Al1 w w2.heap.size g (Dk.make z) (R3.make z) 0 z L ok (w2.alloc (.cells #[.slice BA bn bc, .slice LA ln lc, .int .i64 (-1), .bool false] 31)) := by
  have h1 := hb1.size
  have h2 := hb2.size
  have hlt := hd.lt
  refine ⟨fun b => ¬ L b ∧ b ≠ w2.heap.size, (hd.below hb2).below ((Below.refl _ _).alloc (Nat.le_refl _) _), ⟨BA, bn, bc, LA, ln, lc, ls, Bx.new _ _ _ rfl, ?_⟩, fun b h => h.1, fun b h => h.2, fun h => ?_, hL, by omega, fun b hb => ⟨fun h => ?_, by omega⟩, rel_new, Nat.le_refl _, (hb1.trans (hb2.mono h1)).alloc (by omega) _⟩
  · refine ((hx.lt.below ((Below.refl _ _).alloc (Nat.le_refl _) _)).mono fun b hb => ⟨fun h => ?_, ?_⟩)
    · have := hlt b h
      have := hb.1
      omega
    · have := hb.2
      omega
  · have := hlt _ h
    omega
  · have := hL b h
    omega
theorem Al1.pair {w W W' : World} {L ok L2 : Nat → Prop} {B g g2 m z : Nat} {D : Dk} {R : R3} (h : Al1 w B g D R m z L ok W) (hB : B < W.heap.size) (hb : Below W.heap.size W W') (hd : DX W' L2 g2 D z) (h2 : ∀ b, L2 b → W.heap.size ≤ b) :
    ∃ BA bn bc LA ln lc, Bx W' B #[.slice BA bn bc, .slice LA ln lc, .int .i64 R.armed, .bool R.off] ∧ Pair w W'.heap.size g2 D R m B g D R m z (W'.alloc (.cells #[.slice BA bn bc, .slice LA ln lc, .int .i64 R.armed, .bool R.off] 31)) := by
  obtain ⟨BA, bn, bc, LA, ln, lc, ls, h3, h4⟩ := h.rx
  have hs := hb.size
  have hlt := h.dx.lt
  have hlt2 := hd.lt
  have hw := h.be.size
  have ha : ∀ ob, Below W'.heap.size W' (W'.alloc ob) := fun ob => (Below.refl _ _).alloc (Nat.le_refl _) _
  refine ⟨BA, bn, bc, LA, ln, lc, h3.below hb, ?_⟩
  have h' : Al1 w B g D R m z L (fun b => ok b ∧ b < W.heap.size) W := ⟨h.dx, ⟨_, _, _, _, _, _, _, h3, h4.lt⟩, fun b hb => h.ol b hb.1, fun b hb => h.ob b hb.1, h.lb, h.l0, h.b0, fun b hb => ⟨h.o0 b hb, by omega⟩, h.rel, h.q, h.be⟩
  refine ⟨L2, fun b => ok b ∧ b < W.heap.size, L, fun b => ok b ∧ b < W.heap.size, ⟨hd.below (ha _), ⟨BA, bn, bc, LA, ln, lc, ls, Bx.new _ _ _ rfl, ((h4.lt.below hb).below (ha _))⟩, ?_, ?_, ?_, ?_, by omega, fun b hb => ⟨h.o0 b hb, by omega⟩, h.rel, h.q, (h.be.trans (hb.mono hw)).trans ((ha _).mono (by omega))⟩, (h'.below hb).below (ha _), ?_, ?_, ?_, ?_, ?_, ?_, (fun hl => by have := hlt _ hl; omega), by omega, by simp, by simp; omega⟩
  · rintro b ⟨_, h5⟩ h6
    have := h2 b h6
    omega
  · rintro b ⟨_, h5⟩ e
    omega
  · intro h6
    have := hlt2 _ h6
    omega
  · intro b h6
    have := h2 b h6
    omega
  · intro b h5 h6
    have := h2 b h5
    have := hlt b h6
    omega
  · exact fun b hb => h.ol b hb.1
  · rintro b ⟨_, h5⟩ h6
    have := h2 b h6
    omega
  · exact fun b hb => h.ob b hb.1
  · rintro b ⟨_, h5⟩ e
    omega
  · intro h6
    have := h2 _ h6
    omega
theorem take_end {La : List Ac} {n j : Nat} (hj : j ≤ 15) (h : ¬ (j < n ∧ j < 15)) (hl : La.length = n) : La.take j = La.take 15 := by
  by_cases h2 : j = 15
  · rw [h2]
  · rw [List.take_of_length_le (by omega), List.take_of_length_le (by omega)]
set_option maxHeartbeats 12800000 in
theorem alone_walk (A1 : Option Addr) (n1 c1 : Nat) (La : List Ac) (A2 : Option Addr) (n2 c2 : Nat) (Lb : List Ac) (w : World) (hr1 : Rd w T 5 A1 n1 (flat acell La)) (ha1 : ∀ y ∈ La, AcOk w y) (hr2 : Rd w T 5 A2 n2 (flat acell Lb)) (ha2 : ∀ y ∈ Lb, AcOk w y) (hg : ErrT w) :
    Calls Tryd.prog 3 #[.slice A1 n1 c1, .slice A2 n2 c2] w (YesPost w) := by
  have hnew : Calls Tryd.prog 6 #[.int .i64 60] w (NewPost w 60) := new_any 60 (by omega) (by omega) w
  have hsure := fun W => sure_any W
  have Hsure := Lib.hid hsure
  have Hr1 := Lib.hid hr1
  have Ha1 := Lib.hid ha1
  have hl2 : Lb.length = n2 := hr2.flen acell_len (by omega)
  have Hl2 := Lib.hid hl2
  have Hr2 := Lib.hid hr2
  have Ha2 := Lib.hid ha2
  have Hg := Lib.hid hg
  clear hr1 ha1 hr2 ha2 hg hsure hl2
  go_enter Tryd.func3, Tryd.ntmps3
  go_wp2_with fail
  refine hnew.mono ?_
  rintro e w1 ⟨L, g, rfl, hx, hL, hb1⟩
  have hn3 := new3_any 60 (by unfold I64; omega) w1
  have Hx := Lib.hid hx
  have HL := Lib.hid hL
  have Hb1 := Lib.hid hb1
  clear hx hL hb1 hnew
  go_wp2_with fail
  refine hn3.mono ?_
  rintro e w2 ⟨hb2, h | ⟨-, -, v, rfl, BA, bn, bc, LA, ln, lc, ls, rfl, hx2⟩⟩
  · omega
  obtain ⟨ok0, hst⟩ := Al1.start Hx.out HL.out Hb1.out hb2 hx2
  unfold rval
  have e1 : (R3.make (60 : Int).toNat).armed = -1 := rfl
  have e2 : (R3.make (60 : Int).toNat).off = false := rfl
  rw [e1, e2]
  obtain ⟨B7, hB7⟩ : ∃ B7, B7 = w2.heap.size := ⟨_, rfl⟩
  have Hst := Lib.hid hst
  clear hst hb2 hx2 hn3 e1 e2
  go_wp2_with fail
  go_loopg [9] 15 (fun m s9 wr => ∃ i, m = 15 - i ∧ i ≤ 15 ∧ s9 = .int .i64 (i : Nat) ∧ ∃ L ok, Al1 w w2.heap.size g ((Dk.make 60).acts (La.take i)) ((R3.make 60).acts (La.take i)) i 60 L ok wr ∧ w2.heap.size < wr.heap.size)
  case atStart => exact ⟨0, by omega, by omega, rfl, _, _, Hst.out, by simp⟩
  case round =>
    obtain ⟨i, hm, hi, rfl, L1, ok1, hp, hsz⟩ := hrel
    have Hm := Lib.hid hm
    have Hp := Lib.hid hp
    clear hm hp
    obtain ⟨wq, rfl⟩ : ∃ wq, wq = wr := ⟨_, rfl⟩
    go_upto_region 6 with (fail)
    go_cut [39] (fun s39 W => s39 = .bool (decide (i < n1 ∧ i < 15)) ∧ W = wq)
    case first =>
      by_cases h1 : i < n1
      · have h1I : (i : Int) < n1 := by omega
        by_cases h2 : i < 15
        · have h2I : (i : Int) < 15 := by omega
          go_wp2_with fail
          go_meet
          case rel => exact ⟨by simp [h1, h2], rfl⟩
        · have h2d : decide ((i : Int) < 15) = false := by simp; omega
          go_wp2_with fail
          go_meet
          case rel => exact ⟨by simp [h1, h2], rfl⟩
      · have h1d : decide ((i : Int) < n1) = false := by simp; omega
        go_wp2_with fail
        go_meet
        case rel => exact ⟨by simp [h1], rfl⟩
    case rest =>
    obtain ⟨rfl, rfl⟩ := hcut
    by_cases hlt : i < n1 ∧ i < 15
    · have hd39 : decide (i < n1 ∧ i < 15) = true := by simp [hlt]
      rw [hd39]
      obtain ⟨hin, hi15⟩ := hlt
      obtain ⟨b, o, y, rfl, _, hbl, hy, d0, d1, d2, d3, d4⟩ := ac_cells (Hr1.out.below Hp.out.be) hin
      have hinI : (i : Int) < n1 := by omega
      have h0i : (0 : Int) ≤ i := by omega
      obtain ⟨BA, bn, bc, LA, ln, lc, hx1, hc⟩ := Hp.out.step (Ha1.out y (List.mem_of_getElem? hy)) (by omega) (by omega) Hg.out
      obtain ⟨q0, q1, q2, q3, f0, f1, f2, f3⟩ := hx1.c4
      have etk : La.take (i + 1) = La.take i ++ [y] := by rw [List.take_add_one, hy]; rfl
      have Etk := Lib.hid etk
      have Hc := Lib.hid hc
      have Hy := Lib.hid hy
      clear hc etk hy hx1
      go_upto_region 8 with (fail)
      go_region_law (first
        | (rw [if_pos (by rfl)]; go_simp; go_at_call 8; refine Hc.out.mono ?_; rintro e w4 ⟨BA4, bn4, bc4, LA4, ln4, lc4, rfl, hs4⟩; obtain ⟨_, _, _, _, hx4⟩ := hs4.cells; obtain ⟨r0, r1, r2, r3, g0, g1, g2, g3⟩ := hx4.c4; clear q0 q1 q2 q3 f0 f1 f2 f3))
      all_goals
        have hnext := hs4.put (U := fun _ => False) (Kept.refl _ _) (fun _ h => h.elim)
        have hsz4 := hx4.lt
        have Hnext := Lib.hid hnext
        have Hs4 := Lib.hid hs4
        clear hnext hs4 hx4
        go_wp2_with fail
        go_roundg (15 - (i + 1))
        case measure => have := Hm.out; omega
        case rel =>
          obtain ⟨L5, ok5, k1, k2, k3, k4⟩ := Hnext.out
          refine ⟨i + 1, rfl, by omega, by go_num, ?_⟩
          rw [Etk.out, Dk.acts_one, R3.acts_one]
          exact ⟨L5, ok5, k1, by simp only [World.setCell, Array.size_modify]; omega⟩
    · have hd39 : decide (i < n1 ∧ i < 15) = false := by simp only [hlt]; rfl
      rw [hd39]
      have hcl := cloneD_any _ Hp.out.dx (by have := Hp.out.q; omega)
      clear hlt
      go_wp2_with fail
      refine hcl.mono ?_
      rintro e w5 ⟨L5, g5, rfl, hd5, hL5, hb5⟩
      obtain ⟨BA, bn, bc, LA, ln, lc, hx5, hpair⟩ := Hp.out.pair hsz hb5 hd5 hL5
      obtain ⟨q0, q1, q2, q3, f0, f1, f2, f3⟩ := hx5.c4
      obtain ⟨D0, hD0⟩ : ∃ D0, D0 = (Dk.make 60).acts (La.take i) := ⟨_, rfl⟩
      obtain ⟨R0, hR0⟩ : ∃ R0, R0 = (R3.make 60).acts (La.take i) := ⟨_, rfl⟩
      rw [← hD0, ← hR0] at hpair
      rw [← hR0] at q2 q3
      have Hpair := Lib.hid hpair
      have hs5 := hb5.size
      clear hcl hd5 hL5 hb5 hx5 hpair hD0 hR0 Hp
      go_wp2_with fail
      go_loopg [12] 15 (fun m s12 wr => ∃ j, m = 15 - j ∧ j ≤ 15 ∧ s12 = .int .i64 (j : Nat) ∧ Pair w w5.heap.size g5 (D0.acts (Lb.take j)) (R0.acts (Lb.take j)) (i + j) w2.heap.size g D0 R0 i 60 wr)
      case atStart => exact ⟨0, by omega, by omega, rfl, Hpair.out⟩
      case round =>
        obtain ⟨j, hm, hj, rfl, hp⟩ := hrel
        have Hm2 := Lib.hid hm
        have Hp2 := Lib.hid hp
        clear hm hp
        obtain ⟨wq, rfl⟩ : ∃ wq, wq = wr := ⟨_, rfl⟩
        go_upto_region 14 with (fail)
        go_cut [64] (fun s64 W => s64 = .bool (decide (j < n2 ∧ j < 15)) ∧ W = wq)
        case first =>
          by_cases h1 : j < n2
          · have h1I : (j : Int) < n2 := by omega
            by_cases h2 : j < 15
            · have h2I : (j : Int) < 15 := by omega
              go_wp2_with fail
              go_meet
              case rel => exact ⟨by simp [h1, h2], rfl⟩
            · have h2d : decide ((j : Int) < 15) = false := by simp; omega
              go_wp2_with fail
              go_meet
              case rel => exact ⟨by simp [h1, h2], rfl⟩
          · have h1d : decide ((j : Int) < n2) = false := by simp; omega
            go_wp2_with fail
            go_meet
            case rel => exact ⟨by simp [h1], rfl⟩
        case rest =>
        obtain ⟨rfl, rfl⟩ := hcut
        by_cases hlt : j < n2 ∧ j < 15
        · have hd64 : decide (j < n2 ∧ j < 15) = true := by simp [hlt]
          rw [hd64]
          obtain ⟨hin, hi15⟩ := hlt
          obtain ⟨b, o, y, rfl, _, hbl, hy, d0, d1, d2, d3, d4⟩ := ac_cells (Hr2.out.below (Pair.be Hp2.out)) hin
          have hinI : (j : Int) < n2 := by omega
          have h0i : (0 : Int) ≤ j := by omega
          obtain ⟨BA, bn, bc, LA, ln, lc, hx1, hc⟩ := Pair.step Hp2.out (Ha2.out y (List.mem_of_getElem? hy)) (by omega) (by omega) Hg.out
          obtain ⟨q0, q1, q2, q3, f0, f1, f2, f3⟩ := hx1.c4
          have etk : Lb.take (j + 1) = Lb.take j ++ [y] := by rw [List.take_add_one, hy]; rfl
          have Etk := Lib.hid etk
          have Hc := Lib.hid hc
          have Hy := Lib.hid hy
          have ea : ∀ (ob : Obj) (k i : Nat) (v : Value), k < wc.heap.size → wc.cell? ⟨k, i, none⟩ = some v → (wc.alloc ob).cell? ⟨k, i, none⟩ = some v := fun ob k i v hk h => (((Below.refl wc.heap.size wc).alloc (Nat.le_refl _) ob).cell (p := ⟨k, i, none⟩) hk).trans h
          have p0 := fun ob => ea ob _ _ _ hx1.lt q0
          have p1 := fun ob => ea ob _ _ _ hx1.lt q1
          have p2 := fun ob => ea ob _ _ _ hx1.lt q2
          have p3 := fun ob => ea ob _ _ _ hx1.lt q3
          have d0' := fun ob => ea ob _ _ _ hbl d0
          have d1' := fun ob => ea ob _ _ _ hbl d1
          have d2' := fun ob => ea ob _ _ _ hbl d2
          have d3' := fun ob => ea ob _ _ _ hbl d3
          have d4' := fun ob => ea ob _ _ _ hbl d4
          have hBlt := hx1.lt
          have HBlt := Lib.hid hBlt
          clear hc etk hy hx1 ea hBlt
          obtain ⟨D1, hD1⟩ : ∃ D1, D1 = ((D0.acts (Lb.take j)).act y).1 := ⟨_, rfl⟩
          obtain ⟨R1, hR1⟩ : ∃ R1, R1 = ((R0.acts (Lb.take j)).act y).1 := ⟨_, rfl⟩
          rw [← hD1, ← hR1] at Hc
          have HD1 := Lib.hid hD1
          have HR1 := Lib.hid hR1
          clear hD1 hR1
          go_upto_region 16 with (fail)
          go_cut [13, 14] (fun s13 s14 W => ∃ t, s13 = .pointer (some ⟨t, 0, none⟩) ∧ s14 = .bool true ∧ StoreP w w5.heap.size g5 D1 R1 (i + j + 1) w2.heap.size g D0 R0 i 60 t W)
          case first =>
            go_region_law (first
              | (rw [if_pos (by rfl)]; go_simp; go_at_call 8; refine (Hc.out _ (by first | exact Below.refl _ _ | exact (Below.refl _ _).alloc (Nat.le_refl _) _)).mono ?_; rintro e w4 ⟨BA4, bn4, bc4, LA4, ln4, lc4, rfl, hs4⟩; have Hs4 := Lib.hid hs4; clear hs4 q0 q1 q2 q3 f0 f1 f2 f3 p0 p1 p2 p3 d0' d1' d2' d3' d4'; try (have hT := PairS.temp Hs4.out rfl; obtain ⟨t0, t1, t2, t3, t4, t5, t6, t7⟩ := hT.c4)))
            all_goals
              go_wp2_with fail
              go_meet
              case rel =>
                first
                  | exact ⟨_, rfl, rfl, PairS.new Hs4.out⟩
                  | exact ⟨_, rfl, rfl, PairS.old Hs4.out HBlt.out rfl⟩
          case rest =>
            obtain ⟨t, rfl, rfl, BA4, bn4, bc4, LA4, ln4, lc4, hTB, hxT, ⟨e0, e1, e2, e3, hxB⟩, hp4⟩ := hcut
            obtain ⟨y0, y1, y2, y3, -⟩ := hxT.c4
            obtain ⟨z0, z1, z2, z3, g0, g1, g2, g3⟩ := hxB.c4
            have Hp4 := Lib.hid hp4
            clear hxT hxB hp4 hTB q0 q1 q2 q3 f0 f1 f2 f3 p0 p1 p2 p3 d0' d1' d2' d3' d4' d0 d1 d2 d3 d4
            go_wp2_with fail
            go_roundg (15 - (j + 1))
            case measure => have := Hm2.out; omega
            case rel =>
              refine ⟨j + 1, rfl, by omega, by go_num, ?_⟩
              rw [Etk.out, Dk.acts_one, R3.acts_one, ← HD1.out, ← HR1.out]
              exact Hp4.out
        · have hd64 : decide (j < n2 ∧ j < 15) = false := by simp only [hlt]; rfl
          rw [hd64]
          have hnd := hlt
          clear hlt
          have etk := take_end hj hnd (La := Lb) (n := n2) Hl2.out
          have hp9 := Hp2.out
          rw [etk] at hp9
          obtain ⟨D9, hD9⟩ : ∃ D9, D9 = D0.acts (Lb.take 15) := ⟨_, rfl⟩
          obtain ⟨R9, hR9⟩ : ∃ R9, R9 = R0.acts (Lb.take 15) := ⟨_, rfl⟩
          obtain ⟨m9, hm9⟩ : ∃ m9, m9 = i + j := ⟨_, rfl⟩
          rw [← hD9, ← hR9, ← hm9] at hp9
          have hp9' := Pair.swap hp9
          have Hp9 := Lib.hid hp9'
          have HD9 := Lib.hid hD9
          clear hD9 hR9 Hp2 Hm2 hm9 hd64 hnd hp9 hp9' etk hj
          go_wp2_with fail
          go_loopg [15] 15 (fun m s15 wr => ∃ j, m = 15 - j ∧ j ≤ 15 ∧ s15 = .int .i64 (j : Nat) ∧ Pair w w2.heap.size g (D0.acts (Lb.take j)) (R0.acts (Lb.take j)) (i + j) w5.heap.size g5 D9 R9 m9 60 wr)
          case atStart => exact ⟨0, by omega, by omega, rfl, Hp9.out⟩
          case round =>
            obtain ⟨j, hm, hj, rfl, hp⟩ := hrel
            have Hm2 := Lib.hid hm
            have Hp2 := Lib.hid hp
            clear hm hp
            obtain ⟨wq, rfl⟩ : ∃ wq, wq = wr := ⟨_, rfl⟩
            go_upto_region 21 with (fail)
            go_cut [87] (fun s87 W => s87 = .bool (decide (j < n2 ∧ j < 15)) ∧ W = wq)
            case first =>
              by_cases h1 : j < n2
              · have h1I : (j : Int) < n2 := by omega
                by_cases h2 : j < 15
                · have h2I : (j : Int) < 15 := by omega
                  go_wp2_with fail
                  go_meet
                  case rel => exact ⟨by simp [h1, h2], rfl⟩
                · have h2d : decide ((j : Int) < 15) = false := by simp; omega
                  go_wp2_with fail
                  go_meet
                  case rel => exact ⟨by simp [h1, h2], rfl⟩
              · have h1d : decide ((j : Int) < n2) = false := by simp; omega
                go_wp2_with fail
                go_meet
                case rel => exact ⟨by simp [h1], rfl⟩
            case rest =>
            obtain ⟨rfl, rfl⟩ := hcut
            by_cases hlt : j < n2 ∧ j < 15
            · have hd64 : decide (j < n2 ∧ j < 15) = true := by simp [hlt]
              rw [hd64]
              obtain ⟨hin, hi15⟩ := hlt
              obtain ⟨b, o, y, rfl, _, hbl, hy, d0, d1, d2, d3, d4⟩ := ac_cells (Hr2.out.below (Pair.be Hp2.out)) hin
              have hinI : (j : Int) < n2 := by omega
              have h0i : (0 : Int) ≤ j := by omega
              obtain ⟨BA, bn, bc, LA, ln, lc, hx1, hc⟩ := Pair.step Hp2.out (Ha2.out y (List.mem_of_getElem? hy)) (by omega) (by omega) Hg.out
              obtain ⟨q0, q1, q2, q3, f0, f1, f2, f3⟩ := hx1.c4
              have etk : Lb.take (j + 1) = Lb.take j ++ [y] := by rw [List.take_add_one, hy]; rfl
              have Etk := Lib.hid etk
              have Hc := Lib.hid hc
              have Hy := Lib.hid hy
              have ea : ∀ (ob : Obj) (k i : Nat) (v : Value), k < wc.heap.size → wc.cell? ⟨k, i, none⟩ = some v → (wc.alloc ob).cell? ⟨k, i, none⟩ = some v := fun ob k i v hk h => (((Below.refl wc.heap.size wc).alloc (Nat.le_refl _) ob).cell (p := ⟨k, i, none⟩) hk).trans h
              have p0 := fun ob => ea ob _ _ _ hx1.lt q0
              have p1 := fun ob => ea ob _ _ _ hx1.lt q1
              have p2 := fun ob => ea ob _ _ _ hx1.lt q2
              have p3 := fun ob => ea ob _ _ _ hx1.lt q3
              have d0' := fun ob => ea ob _ _ _ hbl d0
              have d1' := fun ob => ea ob _ _ _ hbl d1
              have d2' := fun ob => ea ob _ _ _ hbl d2
              have d3' := fun ob => ea ob _ _ _ hbl d3
              have d4' := fun ob => ea ob _ _ _ hbl d4
              have hBlt := hx1.lt
              have HBlt := Lib.hid hBlt
              clear hc etk hy hx1 ea hBlt
              obtain ⟨D1, hD1⟩ : ∃ D1, D1 = ((D0.acts (Lb.take j)).act y).1 := ⟨_, rfl⟩
              obtain ⟨R1, hR1⟩ : ∃ R1, R1 = ((R0.acts (Lb.take j)).act y).1 := ⟨_, rfl⟩
              rw [← hD1, ← hR1] at Hc
              have HD1 := Lib.hid hD1
              have HR1 := Lib.hid hR1
              clear hD1 hR1
              go_upto_region 23 with (fail)
              go_cut [16, 17] (fun s16 s17 W => ∃ t, s16 = .pointer (some ⟨t, 0, none⟩) ∧ s17 = .bool true ∧ StoreP w w2.heap.size g D1 R1 (i + j + 1) w5.heap.size g5 D9 R9 m9 60 t W)
              case first =>
                go_region_law (first
                  | (rw [if_pos (by rfl)]; go_simp; go_at_call 8; refine (Hc.out _ (by first | exact Below.refl _ _ | exact (Below.refl _ _).alloc (Nat.le_refl _) _)).mono ?_; rintro e w4 ⟨BA4, bn4, bc4, LA4, ln4, lc4, rfl, hs4⟩; have Hs4 := Lib.hid hs4; clear hs4 q0 q1 q2 q3 f0 f1 f2 f3 p0 p1 p2 p3 d0' d1' d2' d3' d4'; try (have hT := PairS.temp Hs4.out rfl; obtain ⟨t0, t1, t2, t3, t4, t5, t6, t7⟩ := hT.c4)))
                all_goals
                  go_wp2_with fail
                  go_meet
                  case rel =>
                    first
                      | exact ⟨_, rfl, rfl, PairS.new Hs4.out⟩
                      | exact ⟨_, rfl, rfl, PairS.old Hs4.out HBlt.out rfl⟩
              case rest =>
                obtain ⟨t, rfl, rfl, BA4, bn4, bc4, LA4, ln4, lc4, hTB, hxT, ⟨e0, e1, e2, e3, hxB⟩, hp4⟩ := hcut
                obtain ⟨y0, y1, y2, y3, -⟩ := hxT.c4
                obtain ⟨z0, z1, z2, z3, g0, g1, g2, g3⟩ := hxB.c4
                have Hp4 := Lib.hid hp4
                clear hxT hxB hp4 hTB q0 q1 q2 q3 f0 f1 f2 f3 p0 p1 p2 p3 d0' d1' d2' d3' d4' d0 d1 d2 d3 d4
                go_wp2_with fail
                go_roundg (15 - (j + 1))
                case measure => have := Hm2.out; omega
                case rel =>
                  refine ⟨j + 1, rfl, by omega, by go_num, ?_⟩
                  rw [Etk.out, Dk.acts_one, R3.acts_one, ← HD1.out, ← HR1.out]
                  exact Hp4.out
            · have hd64 : decide (j < n2 ∧ j < 15) = false := by simp only [hlt]; rfl
              rw [hd64]
              have hnd := hlt
              clear hlt
              have etk := take_end hj hnd (La := Lb) (n := n2) Hl2.out
              have hp9 := Hp2.out
              rw [etk, ← HD9.out] at hp9
              obtain ⟨L7, ok7, L8, ok8, h7, h8, -⟩ := hp9
              have hdn1 := down_any _ h7.dx
              have hdn2 := down_any _ h8.dx
              have hwt1 := waits_any _ h8.dx
              have hwt2 := fun W hb => waits_any W (h7.dx.below hb)
              have hbe := h7.be
              have Hwt1 := Lib.hid hwt1
              have Hwt2 := Lib.hid hwt2
              have Hdn1 := Lib.hid hdn1
              have Hbe := Lib.hid hbe
              clear h7 h8 etk hnd hd64 hwt1 hwt2 hdn1 hbe
              go_wp2_with fail
              refine hdn2.mono ?_
              rintro e w6 ⟨rfl, rfl⟩
              clear hdn2
              go_wp2_with fail
              refine Hdn1.out.mono ?_
              rintro e w7 ⟨rfl, rfl⟩
              go_wp2_with fail
              refine Hwt1.out.mono ?_
              rintro e w8 ⟨rfl, hb8⟩
              have Hb8 := Lib.hid hb8
              have hw2 := Hwt2.out _ hb8
              clear hb8
              go_wp2_with fail
              refine hw2.mono ?_
              rintro e w9 ⟨rfl, hb9⟩
              have Hb9 := Lib.hid hb9
              clear hb9 hw2
              go_wp2_with fail
              refine (Hsure.out _).mono ?_
              rintro e w10 ⟨rfl, hb10⟩
              go_wp2_with fail
              go_ret
              have b1 := Hbe.out.trans (Hb8.out.mono Hbe.out.size)
              have b2 := b1.trans (Hb9.out.mono b1.size)
              exact ⟨rfl, b2.trans (hb10.mono b2.size)⟩
end Go.Proofs.YtefhkhocbcnbcaaDoor
