/- The disk's settle: all that waits is laid into what is safe. -/
import Derived.Test.YtijgkejknijplaaDoorDsW
import Derived.Deep.LoopGhost
import Derived.StillTailTactics
import Derived.Deep.DeepCutAuto
import Derived.Deep.RegionLaw
import Derived.Deep.RegionHeld3
namespace Go.Proofs.YtijgkejknijplaaDoor
open Go.RowKit
set_option maxRecDepth 100000
set_option linter.unusedVariables false
set_option linter.unusedSimpArgs false
theorem w_cells {w : World} {ok : Nat → Prop} {n : Nat} {A : Option Addr} {l : List Wq} (h : Rd w ok 2 A n (flat wcell l)) {j : Nat} (hj : j < n) : ∃ b o x, A = some ⟨b, o, none⟩ ∧ ok b ∧ b < w.heap.size ∧ l[j]? = some x ∧
    w.cell? ⟨b, o + j * 2, none⟩ = some (.int .i64 x.p) ∧ w.cell? ⟨b, o + j * 2 + 1, none⟩ = some (.slice x.A x.n x.m) := by
  obtain ⟨b, o, x, hA, hb, hlt, hx, hc⟩ := h.fat wcell_len (by omega) hj
  exact ⟨b, o, x, hA, hb, hlt, hx, hc 0 _ rfl, hc 1 _ rfl⟩
/-- What settle leaves: nothing waits. -/
def SetPost (W : World) (L : Nat → Prop) (g : Nat) (D : Dk) (z : Nat) (e : Ending) (w' : World) : Prop := e = .returned (.tuple #[]) ∧ (∃ s o cS cO Q nq cQ qs, DS w' L g D.settled z s o cS cO Q nq cQ qs) ∧ Kept L W w'
section
variable {L : Nat → Prop} {g : Nat} {D : Dk} {z s o cS cO : Nat} {Q : Option Addr} {nq cQ : Nat} {qs : List Wq}
set_option maxHeartbeats 1600000 in
theorem settle_any (w : World) (h : DS w L g D z s o cS cO Q nq cQ qs) (hf : Fit z D.q) (hn : nq ≤ 1000000) :
    Calls Tryd.prog 29 #[.pointer (some ⟨g, 0, none⟩)] w (SetPost w L g D z) := by
  obtain ⟨k0, k1, k2, k3, k4⟩ := h.c
  have hzc := h.zc
  have H := Lib.hid h
  have Hf := Lib.hid hf
  clear h hf k1 k3 k4
  go_enter Tryd.func29, Tryd.ntmps29
  go_wp2_with fail
  go_loopg [9] nq (fun m s9 wr => ∃ j, m = nq - j ∧ j ≤ nq ∧ s9 = .int .i64 (j : Nat) ∧ DS wr L g { D with safe := lain D.safe (D.q.take j) } z s o cS cO Q nq cQ qs ∧ Kept L w wr)
  case atStart => exact ⟨0, by omega, by omega, rfl, H.out, Kept.refl _ _⟩
  case round =>
    obtain ⟨j, hm, hj, rfl, hi, hkp⟩ := hrel
    have Hm := Lib.hid hm
    have Hk := Lib.hid hkp
    obtain ⟨k0, k1, k2, k3, k4⟩ := hi.c
    have Hi := Lib.hid hi
    clear hm hkp hi k1 k3 k4
    by_cases hlt : j < nq
    · obtain ⟨b, q0, x, rfl, _, hbl, hx, hd0, hd1⟩ := w_cells (Rd.of_own Hi.out.que) hlt
      have hjn : (j : Int) < nq := by omega
      have h0j : (0 : Int) ≤ j := by omega
      have hq : D.q[j]? = some (x.p, x.d) := by rw [← Hi.out.qd]; show (qs.map wq)[j]? = _; rw [List.getElem?_map, hx]; rfl
      have hfit := Hf.out _ (List.mem_of_getElem? hq)
      have hxd := Hi.out.dat x (List.mem_of_getElem? hx)
      have hxl := hxd.1.blen
      dsimp only at hfit
      have hxz : x.p ≤ cS := by omega
      have hpz : x.p ≤ z := by omega
      have hpzI : (x.p : Int) ≤ z := by omega
      have hpcI : (x.p : Int) ≤ cS := by omega
      have hp0 : (0 : Int) ≤ x.p := by omega
      obtain ⟨ad, had⟩ : ∃ ad, ad = (if cS = x.p then some (⟨s, 0, none⟩ : Addr) else (some (⟨s, 0, none⟩ : Addr)).map (·.add (x.p * 1))) := ⟨_, rfl⟩
      have hsl : ∀ W : World, (Instr.sliceAt 22 (.slice (some ⟨s, 0, none⟩) z cS) (some (.int .i64 (x.p : Int))) none none).run Tryd.prog W = .ok (.slice ad (z - x.p) (cS - x.p)) W := by
        intro W
        rw [had]
        exact run_slice_lo (P := Tryd.prog) 22 Tryd.underlying22 (by kernel_rfl) _ z cS W x.p hpz
      obtain ⟨W1, hW1⟩ : ∃ W1, W1 = wr.alloc (.cells #[.int .i64 (x.p : Int), .slice x.A x.n x.m] 65) := ⟨_, rfl⟩
      have hi1 : DS W1 L g { D with safe := lain D.safe (D.q.take j) } z s o cS cO (some ⟨b, q0, none⟩) nq cQ qs := by subst hW1; exact Hi.out.alloc _
      have hb1 : Below wr.heap.size wr W1 := by subst hW1; exact (Below.refl _ _).alloc (Nat.le_refl _) _
      have x1 : Bx W1 wr.heap.size #[.int .i64 (x.p : Int), .slice x.A x.n x.m] := by subst hW1; exact Bx.new _ _ _ rfl
      have hr1 := hxd.1.below hb1
      obtain ⟨v0, v1, -, -⟩ := x1.c2
      have v2 := hi1.c.1
      have Had := Lib.hid had
      have HW := Lib.hid hW1
      have Hi1 := Lib.hid hi1
      have Hr1 := Lib.hid hr1
      have Hb1 := Lib.hid hb1
      clear had hW1 hi1 x1 hr1 hb1 hxd
      go_wp2_with fail
      rw [← HW.out]
      go_still_tail 9, (by kernel_rfl)
      change wpList _ _ _ _ _ W1.drew
      refine wpList_copy_into rfl _ _ _ _ rfl 5 Tryd.underlying22 (by kernel_rfl) _ _ _ _ _ _ rfl rfl s x.p z cS _ (bs x.d) Hi1.out.drew.safe Hr1.out.drew ?_ ?_ ?_ (bs_one _) ?_
      · intro h0
        rw [Had.out, if_neg (by rw [bs_length] at h0; omega)]
        simp [Addr.add]
        omega
      · omega
      · rw [bs_length]; omega
      · intro w2 ho2 hy2
        have hnext := Hi1.out.drew.layS ho2 hy2
        have hkn : Kept L w w2 := (Hk.out.trans (V := L) (Kept.of_new Hb1.out) fun b _ h => h).drew.trans (V := L) (hy2.kept Hi1.out.ls) fun b _ h => h
        have hq2 : lain D.safe (D.q.take (j + 1)) = splice (lain D.safe (D.q.take j)) x.p x.d := by
          rw [List.take_add_one, hq]
          exact lain_one
        have Hnext := Lib.hid hnext
        have Hkn := Lib.hid hkn
        have Hq2 := Lib.hid hq2
        clear hnext hkn hq2
        go_wp2_with fail
        go_roundg (nq - (j + 1))
        case measure => have := Hm.out; omega
        case rel => exact ⟨j + 1, rfl, by omega, by go_num, by rw [Hq2.out]; exact Hnext.out, Hkn.out⟩
    · obtain rfl : j = nq := by omega
      obtain ⟨w2, xs2, hrun, hown2, hq2⟩ := run_clear_any (P := Tryd.prog) wr 59 65 0 (.agg #[.int .i64 0, .slice none 0 0]) 2 Tryd.underlying59 (by intro w; kernel_rfl) rfl (by intro i hi; match i with | 0 => rfl | 1 => rfl | (i + 2) => omega) Hi.out.que
      have k5 : w2.cell? ⟨g, 2, none⟩ = some (.slice Q j cQ) := by
        have := (Hi.out.bx.keep (hq2.block g Hi.out.gq)).c 2
        exact this
      have k6 : w2.frozen? ⟨g, 2, none⟩ = false := (Hi.out.bx.keep (hq2.block g Hi.out.gq)).f 2
      have hown0 : w2.ownsRow 0 65 2 (.slice Q 0 cQ) 0 (flat wcell []) := by
        rcases hown2.2 with ⟨h1, h2⟩ | ⟨g', cap, cur, h1, h2, h3, h4, h5, h6, h7⟩
        · injection h1 with h1 h1' h1''
          subst h1 h1''
          exact own_nil _ _ _ _ _ rfl
        · injection h1 with h1 h1' h1''
          subst h1 h1''
          exact ⟨rfl, .inr ⟨g', cQ, cur, rfl, h2, h3, by omega, h5, h6, by simp [flat]⟩⟩
      have hset := Hi.out.cutQ hq2 rfl hown0 (fun y hy => by cases hy) rfl
      have hsl : ∀ W : World, (Instr.sliceAt 59 (.slice Q j cQ) none (some (.int .i64 0)) none).run Tryd.prog W = .ok (.slice Q 0 cQ) W := by
        intro W
        have := run_slice_hi (P := Tryd.prog) 59 Tryd.underlying59 (size := 2) (by kernel_rfl) Q j cQ W 0 (Nat.zero_le _)
        rw [show ((0 : Nat) : Int) = 0 from rfl] at this
        rw [this]
        congr 2
        split
        · rfl
        · cases Q with
          | none => rfl
          | some a => simp [Addr.add]
      have hkf : Kept L w (w2.setCell ⟨g, 2, none⟩ (.slice Q 0 cQ)) := (Hk.out.trans (V := L) (hq2.kept fun b hb => Hi.out.lq b hb) fun b _ h => h).set Hi.out.lg _
      have Hset := Lib.hid hset
      have Hkf := Lib.hid hkf
      have Hql := Lib.hid (show D.q.take j = D.q from List.take_of_length_le (by have := Hi.out.qlen; exact Nat.le_of_eq this))
      clear hset hkf hown0 hown2 hq2
      go_wp2_with fail
      go_end0
      have h2 := Hset.out
      rw [Hql.out] at h2
      exact ⟨rfl, ⟨s, o, cS, cO, Q, 0, cQ, [], h2⟩, Hkf.out⟩
end
end Go.Proofs.YtijgkejknijplaaDoor
