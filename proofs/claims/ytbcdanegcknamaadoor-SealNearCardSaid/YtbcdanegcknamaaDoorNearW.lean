/- Walk of tollbarlaw02.SealNear. -/
import Derived.Test.YtbcdanegcknamaaDoorNear
import Derived.Test.YtbcdanegcknamaaDoorSure2
import Derived.Test.YtbcdanegcknamaaDoorNum
import Derived.Test.YtbcdanegcknamaaDoorArith
import Derived.Deep.LoopGhost
namespace Go.Proofs.YtbcdanegcknamaaDoor
open Go.RowKit
set_option linter.unusedVariables false
set_option linter.unusedSimpArgs false
def byC (by_ : List UInt8) : Array Value := #[.int .u8 ((by_.getD 0 0).toNat : Int), .int .u8 ((by_.getD 1 0).toNat : Int), .int .u8 ((by_.getD 2 0).toNat : Int), .int .u8 ((by_.getD 3 0).toNat : Int), .int .u8 ((by_.getD 4 0).toNat : Int)]
theorem byC_get (b : List UInt8) (k : Nat) (h : k < 5) : (byC b)[k]? = some (.int .u8 ((b.getD k 0).toNat : Int)) := by
  have : k = 0 ∨ k = 1 ∨ k = 2 ∨ k = 3 ∨ k = 4 := by omega
  rcases this with rfl | rfl | rfl | rfl | rfl <;> rfl
/-- Is any of the first k bytes not nought? -/
def oth (b : List UInt8) (k : Nat) : Bool := !decide (∀ j, j < k → b.getD j 0 = 0)
theorem oth_zero (b : List UInt8) : oth b 0 = false := by simp [oth]
theorem oth_succ (b : List UInt8) (k : Nat) : oth b (k + 1) = (oth b k || ((b.getD k 0).toNat : Int) != 0) := by
  have e : (((b.getD k 0).toNat : Int) != 0) = !decide (b.getD k 0 = 0) := by
    by_cases h : b.getD k 0 = 0
    · rw [h]; rfl
    · have : (((b.getD k 0).toNat : Int) != 0) = true := bne_iff_ne.2 fun h' => h (UInt8.toNat_inj.1 (by show (b.getD k 0).toNat = 0; omega))
      rw [this, decide_eq_false h]
      rfl
  rw [e]
  unfold oth
  rw [← Bool.not_and, ← Bool.decide_and]
  congr 2
  apply propext
  constructor
  · intro h; exact ⟨fun j hj => h j (by omega), h k (by omega)⟩
  · intro ⟨h1, h2⟩ j hj
    by_cases e : j = k
    · rw [e]; exact h2
    · exact h1 j (by omega)
theorem zx_same (x : List UInt8) (N i k : Nat) (b : List UInt8) (h : x.length = N) (hz : ∀ j, j < k → b.getD j 0 = 0) : zx x (win N i k b) = x := by
  apply List.ext_getElem
  · rw [zx_length _ _ (by rw [win_length]; exact h)]
  · intro j h1 h2
    simp only [zx, win, List.getElem_zipWith, List.getElem_map, List.getElem_range]
    split
    · rw [hz _ (by omega)]
      exact UInt8.xor_zero
    · exact UInt8.xor_zero
theorem near_far (A : Option Addr) (n c : Nat) (z : Int) (b0 b1 b2 b3 b4 : UInt8) (w : World) (h : ((b4.toNat : Int) == 0) = true ∨ ((b4.toNat : Int) == 0) = false ∧ 5000 < (n : Int)) :
    Calls Tryd.prog 5 #[.slice A n c, .int .i64 z, .agg #[.int .u8 b0.toNat, .int .u8 b1.toNat, .int .u8 b2.toNat, .int .u8 b3.toNat, .int .u8 b4.toNat]] w (YesPost w) := by
  rcases h with h | ⟨h, h'⟩
  all_goals
    go_enter Tryd.func5, Tryd.ntmps5
    go_wp2_with fail
    refine (sure_any _).mono ?_
    rintro e w4 ⟨rfl, hb4⟩
    go_wp2_with fail
    go_ret
    exact ⟨rfl, ((Below.refl _ _).alloc (Nat.le_refl _) _).trans (hb4.mono (by simp))⟩
theorem own_base {w : World} {B B' e size n : Nat} {v : Value} {xs : List Value} (h : w.ownsRow B e size v n xs) (hb : B' ≤ B) : w.ownsRow B' e size v n xs := by
  refine ⟨h.1, ?_⟩
  rcases h.2 with h2 | ⟨g, cap, cur, h1, h2, h3⟩
  · exact .inl h2
  · exact .inr ⟨g, cap, cur, h1, Nat.le_trans hb h2, h3⟩
/-- The round's head: the row, the box of the array, the rest. -/
structure NInv (w : World) (R g cap n i : Nat) (X b : List UInt8) (k : Nat) (wr : World) : Prop where
  own : wr.ownsRow w.heap.size 5 1 (.slice (some ⟨g, 0, none⟩) n cap) n (bs (zx X (win n i k b)))
  bx : Bx wr R (byC b)
  be : Below w.heap.size w wr
  ne : g ≠ R
theorem NInv.step {w : World} {R g cap n i : Nat} {X b : List UInt8} {k : Nat} {wr : World} (h : NInv w R g cap n i X b k wr) (hX : X.length = n) (hk : i + k < n) (u : UInt8) (hu : u = (zx X (win n i k b)).getD (i + k) 0 ^^^ b.getD k 0) (hw : w.heap.size ≤ g) :
    NInv w R g cap n i X b (k + 1) (wr.drew.setCell ⟨g, i + k, none⟩ (.int .u8 (u.toNat : Int))) := by
  have h1 := (h.own.drew.stored (i + k) (.int .u8 (u.toNat : Int))).1
  have e : (bs (zx X (win n i k b))).set (i + k) (.int .u8 (u.toNat : Int)) = bs (zx X (win n i (k + 1) b)) := by
    rw [← win_succ n i k b X hX hk u hu, bs, bs, List.map_set]
  rw [e] at h1
  exact ⟨h1, h.bx.drew.far (fun e => h.ne e.symm) _, h.be.drew.setCell hw _, h.ne⟩
set_option maxHeartbeats 1600000 in
theorem near_walk (A : Option Addr) (n c : Nat) (z : Int) (b0 b1 b2 b3 b4 : UInt8) (body : List UInt8) (w : World) (hg : ErrT w) (hr : Rd w T 1 A n (bs body)) (hn : (n : Int) ≤ 5000) (hk : ((b4.toNat : Int) == 0) = false) :
    Calls Tryd.prog 5 #[.slice A n c, .int .i64 z, .agg #[.int .u8 b0.toNat, .int .u8 b1.toNat, .int .u8 b2.toNat, .int .u8 b3.toNat, .int .u8 b4.toNat]] w (YesPost w) := by
  have hl := hr.blen
  obtain ⟨b, hb⟩ : ∃ b, b = [b0, b1, b2, b3, b4] := ⟨_, rfl⟩
  have hbx : Bx (w.alloc (.cells #[.int .u8 b0.toNat, .int .u8 b1.toNat, .int .u8 b2.toNat, .int .u8 b3.toNat, .int .u8 b4.toNat] 37)) w.heap.size (byC b) := by
    rw [hb]; exact Bx.new w _ _ rfl
  obtain ⟨i, hi, -, -, ei⟩ := uint_mod z (n + 5) ((n : Int) + 5) (by omega) (by omega) (by omega)
  obtain ⟨X, hX⟩ : ∃ X, X = sealF b4 body := ⟨_, rfl⟩
  have hXl : X.length = n + 5 := by rw [hX, sealF_length]; omega
  have hXt : tailOf (sumOf (X.take (n + 1))) = X.drop (n + 1) := by rw [hX, ← hl, sealF_take, sealF_drop]
  have hseal := seal_ok b4 A n c body _ (hr.alloc (.cells #[.int .u8 b0.toNat, .int .u8 b1.toNat, .int .u8 b2.toNat, .int .u8 b3.toNat, .int .u8 b4.toNat] 37)) (by omega) hk
  rw [← hX] at hseal
  have Hg := Lib.hid hg
  have HX := Lib.hid hX
  have HXl := Lib.hid hXl
  have HXt := Lib.hid hXt
  have Hl := Lib.hid hl
  have Hb := Lib.hid hb
  have Hseal := Lib.hid hseal
  clear hg hX hXl hXt hl hb hseal
  go_enter Tryd.func5, Tryd.ntmps5
  go_wp2_with fail
  refine Hseal.out.mono ?_
  rintro e w1 ⟨A1, n1, c1, rfl, hown1, hb1⟩
  obtain rfl : n1 = n + 5 := by have := (Rd.of_own hown1).blen; rw [HXl.out] at this; omega
  obtain ⟨g, cap, hv, hgb, hgl⟩ := hown1.form (by omega)
  injection hv with hv1 hv2 hv3
  subst hv1
  have hinv : NInv w w.heap.size g c1 (n + 5) i X b 0 w1 := ⟨by rw [win_zero _ _ _ _ HXl.out]; exact own_base hown1 (by simp), hbx.below (hb1.mono (by simp)), ((Below.refl _ _).alloc (Nat.le_refl _) _).trans (hb1.mono (by simp)), by simp at hgb; omega⟩
  clear hv2 hv3 hb1 hown1 hbx
  have hgw : w.heap.size ≤ g := by simp at hgb; omega
  clear hgb hgl
  go_wp2_with fail
  simp only [ei]
  clear ei
  go_loopg [11, 12] 4 (fun m s11 s12 wr => ∃ k : Nat, m = 4 - k ∧ k ≤ 4 ∧ i + k ≤ n + 5 ∧ s12 = .int .i64 k ∧ s11 = .bool (oth b k) ∧ NInv w w.heap.size g c1 (n + 5) i X b k wr)
  case atStart => exact ⟨0, by omega, by omega, by omega, rfl, by rw [oth_zero], hinv⟩
  case round =>
    obtain ⟨k, hm, hk4, hik, rfl, rfl, hinv'⟩ := hrel
    clear hinv
    have Hm := Lib.hid hm
    clear hm
    by_cases hin : k < 4 ∧ i + k < n + 5
    · obtain ⟨hlt, hin⟩ := hin
      have hos := oth_succ b k
      have hYl : (zx X (win (n + 5) i k b)).length = n + 5 := by rw [zx_length _ _ (by rw [win_length]; exact HXl.out), HXl.out]
      have hc1 : wr.cell? ⟨g, i + k, none⟩ = some (.int .u8 (((zx X (win (n + 5) i k b)).getD (i + k) 0).toNat : Int)) := by
        rw [hinv'.own.cellAt (i + k) (by omega), bs_get _ _ (by omega), List.getD_eq_getElem?_getD, List.getElem?_eq_getElem (by omega)]
        rfl
      have hf1 := hinv'.own.frozenAt (i + k)
      have hc2 := (hinv'.bx.c k).trans (byC_get b k (by omega))
      have hstep := fun u hu => hinv'.step HXl.out hin u hu hgw
      generalize hy : (zx X (win (n + 5) i k b)).getD (i + k) 0 = y at hc1 hstep
      generalize hv : b.getD k 0 = v at hos hc2 hstep
      have hxor := u8_xor_nat y.toNat v.toNat y.toNat_lt v.toNat_lt
      rw [← UInt8.toNat_xor] at hxor
      replace hstep := hstep _ rfl
      generalize y ^^^ v = u at hxor hstep
      generalize ho : oth b k = o at hos
      have Hos := Lib.hid hos
      have Hstep := Lib.hid hstep
      clear hos hy hv ho hstep hinv' hYl
      have b1 : (0 : Int) ≤ (k : Int) := by omega
      have b2 : (k : Int) < 5 := by omega
      have b3 : (0 : Int) ≤ (i : Int) + (k : Int) := by omega
      have b4 : (i : Int) + (k : Int) < (n : Int) + 5 := by omega
      rcases Bool.eq_false_or_eq_true o with ho | ho
      · subst ho
        go_wp2_with fail
        go_region
        go_wp2_with fail
        go_roundg (4 - (k + 1))
        case measure => have := Hm.out; omega
        case rel => exact ⟨k + 1, rfl, by omega, by omega, by go_num, by rw [Hos.out]; rfl, Hstep.out⟩
      · subst ho
        go_wp2_with fail
        go_region
        go_wp2_with fail
        go_roundg (4 - (k + 1))
        case measure => have := Hm.out; omega
        case rel => exact ⟨k + 1, rfl, by omega, by omega, by go_num, by rw [Hos.out]; rfl, Hstep.out⟩
    · have hwin := win_near (n + 5) i k (n + 1) b X rfl HXl.out hik hk4 HXt.out
      have hrd := Rd.of_own hinv'.own
      have hcap := own_le hinv'.own
      have hbe := hinv'.be
      have hxs := zx_same X (n + 5) i k b HXl.out
      have Hin := Lib.hid hin
      clear hin
      rcases Bool.eq_false_or_eq_true (oth b k) with ho | ho
      · have hno : ¬ ∀ j, j < k → b.getD j 0 = 0 := by
          intro h
          unfold oth at ho
          rw [decide_eq_true h] at ho
          cases ho
        have hopen : Calls Tryd.prog 10 #[.slice (some ⟨g, 0, none⟩) (n + 5) c1] wr (OpenPost wr 0 [] (.iface 42 (.int .i64 11))) :=
          open_long g 0 (n + 1) c1 _ wr hrd (by omega) hcap (by omega) _ _ _ (.inl ⟨fun h => hno (hwin.1 h), rfl, rfl, rfl⟩)
        have Hopen := Lib.hid hopen
        rw [ho]
        clear hopen hwin hxs hno ho hinv' hrd
        by_cases hlt : k < 4
        · have hge : ¬ ((i : Int) + (k : Int) < (n : Int) + 5) := by have := Hin.out; omega
          go_wp2_with fail
          refine Hopen.out.mono ?_
          rintro e w2 ⟨A2, n2, c2, rfl, _, hb2⟩
          have hb := hbe.trans (hb2.mono hbe.size)
          clear hb2
          go_wp2_with fail
          refine (num_err 11 w2 (Hg.out.below hb)).mono ?_
          rintro e w3 ⟨rfl, hb3⟩
          replace hb := hb.trans (hb3.mono hb.size)
          clear hb3
          go_wp2_with fail
          refine (sure_any _).mono ?_
          rintro e w4 ⟨rfl, hb4⟩
          go_wp2_with fail
          go_ret
          exact ⟨rfl, hb.trans (hb4.mono hb.size)⟩
        · obtain rfl : k = 4 := by omega
          go_wp2_with fail
          refine Hopen.out.mono ?_
          rintro e w2 ⟨A2, n2, c2, rfl, _, hb2⟩
          have hb := hbe.trans (hb2.mono hbe.size)
          clear hb2
          go_wp2_with fail
          refine (num_err 11 w2 (Hg.out.below hb)).mono ?_
          rintro e w3 ⟨rfl, hb3⟩
          replace hb := hb.trans (hb3.mono hb.size)
          clear hb3
          go_wp2_with fail
          refine (sure_any _).mono ?_
          rintro e w4 ⟨rfl, hb4⟩
          go_wp2_with fail
          go_ret
          exact ⟨rfl, hb.trans (hb4.mono hb.size)⟩
      · have hyes : ∀ j, j < k → b.getD j 0 = 0 := by
          unfold oth at ho
          simpa using ho
        rw [hxs hyes, HX.out] at hrd
        have hopen : Calls Tryd.prog 10 #[.slice (some ⟨g, 0, none⟩) (n + 5) c1] wr (OpenPost wr b4 body .nilIface) :=
          open_sealed b4 _ (n + 5) c1 body wr hrd hcap (by have := Hl.out; omega) hk
        have Hopen := Lib.hid hopen
        rw [ho]
        clear hopen hwin hxs hyes ho hinv' hrd
        by_cases hlt : k < 4
        · have hge : ¬ ((i : Int) + (k : Int) < (n : Int) + 5) := by have := Hin.out; omega
          go_wp2_with fail
          refine Hopen.out.mono ?_
          rintro e w2 ⟨A2, n2, c2, rfl, _, hb2⟩
          have hb := hbe.trans (hb2.mono hbe.size)
          clear hb2
          go_wp2_with fail
          refine (sure_any _).mono ?_
          rintro e w4 ⟨rfl, hb4⟩
          go_wp2_with fail
          go_ret
          exact ⟨rfl, hb.trans (hb4.mono hb.size)⟩
        · obtain rfl : k = 4 := by omega
          go_wp2_with fail
          refine Hopen.out.mono ?_
          rintro e w2 ⟨A2, n2, c2, rfl, _, hb2⟩
          have hb := hbe.trans (hb2.mono hbe.size)
          clear hb2
          go_wp2_with fail
          refine (sure_any _).mono ?_
          rintro e w4 ⟨rfl, hb4⟩
          go_wp2_with fail
          go_ret
          exact ⟨rfl, hb.trans (hb4.mono hb.size)⟩
end Go.Proofs.YtbcdanegcknamaaDoor
