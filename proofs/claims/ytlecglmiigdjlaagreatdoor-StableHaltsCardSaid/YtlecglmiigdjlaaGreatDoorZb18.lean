/- The disk's settle: all that waits is laid into what is safe.
   The disk's Write, Sync, Read, Waits.
   A tape in memory; walks of place, Room, Len, alive, write. -/
import Derived.Test.YtlecglmiigdjlaaGreatDoorZb17
import Derived.Deep.LoopGhost
import Derived.StillTailTactics
import Derived.Deep.DeepCutAuto
import Derived.Deep.RegionLaw
import Derived.Deep.RegionHeld3
import Derived.BigQuiet
namespace Go.Proofs.YtlecglmiigdjlaaGreatDoor
open Go.RowKit
set_option maxRecDepth 100000
set_option linter.unusedVariables false
set_option linter.unusedSimpArgs false
theorem w_cells {w : World} {ok : Nat → Prop} {n : Nat} {A : Option Addr} {l : List Wq} (h : Rd w ok 2 A n (flat wcell l)) {j : Nat} (hj : j < n) : ∃ b o x, A = some ⟨b, o, none⟩ ∧ ok b ∧ b < w.heap.size ∧ l[j]? = some x ∧
    w.cell? ⟨b, o + j * 2, none⟩ = some (.int .i64 x.p) ∧ w.cell? ⟨b, o + j * 2 + 1, none⟩ = some (.slice x.A x.n x.m) := by
  obtain ⟨b, o, x, hA, hb, hlt, hx, hc⟩ := h.fat wcell_len (by omega) hj
  exact ⟨b, o, x, hA, hb, hlt, hx, hc 0 _ rfl, hc 1 _ rfl⟩
/-- What settle leaves: nothing waits. -/
def SetPost (W : World) (L : Nat → Prop) (g : Nat) (D : Dk) (z : Nat) (e : Ending) (w' : World) : Prop := e = .returned (.tuple #[]) ∧ (∃ s o cS cO Q nq cQ qs, DS w' L g D.settled z s o cS cO Q nq cQ qs) ∧ Kept L W w'
section
variable {L : Nat → Prop} {g : Nat} {D : Dk} {z s o cS cO : Nat} {Q : Option Addr} {nq cQ : Nat} {qs : List Wq}
set_option maxHeartbeats 1600000 in
theorem settle_any (w : World) (h : DS w L g D z s o cS cO Q nq cQ qs) (hf : Fit z D.q) (hn : nq ≤ 1000000) :
    Calls Tryz.prog 57 #[.pointer (some ⟨g, 0, none⟩)] w (SetPost w L g D z) := by
  obtain ⟨k0, k1, k2, k3, k4⟩ := h.c
  have hzc := h.zc
  have H := Lib.hid h
  have Hf := Lib.hid hf
  clear h hf k1 k3 k4
  go_enter Tryz.func57, Tryz.ntmps57
  go_wp2_with fail
  go_loopg [9] nq (fun m s9 wr => ∃ j, m = nq - j ∧ j ≤ nq ∧ s9 = .int .i64 (j : Nat) ∧ DS wr L g { D with safe := lain D.safe (D.q.take j) } z s o cS cO Q nq cQ qs ∧ Kept L w wr)
  case atStart => exact ⟨0, by omega, by omega, rfl, H.out, Kept.refl _ _⟩
  case round =>
    obtain ⟨j, hm, hj, rfl, hi, hkp⟩ := hrel
    have Hm := Lib.hid hm
    have Hk := Lib.hid hkp
    obtain ⟨k0, k1, k2, k3, k4⟩ := hi.c
    have Hi := Lib.hid hi
    clear hm hkp hi k1 k3 k4
    by_cases hlt : j < nq
    · obtain ⟨b, q0, x, rfl, _, hbl, hx, hd0, hd1⟩ := w_cells (Rd.of_own Hi.out.que) hlt
      have hjn : (j : Int) < nq := by omega
      have h0j : (0 : Int) ≤ j := by omega
      have hq : D.q[j]? = some (x.p, x.d) := by rw [← Hi.out.qd]; show (qs.map wq)[j]? = _; rw [List.getElem?_map, hx]; rfl
      have hfit := Hf.out _ (List.mem_of_getElem? hq)
      have hxd := Hi.out.dat x (List.mem_of_getElem? hx)
      have hxl := hxd.1.blen
      dsimp only at hfit
      have hxz : x.p ≤ cS := by omega
      have hpz : x.p ≤ z := by omega
      have hpzI : (x.p : Int) ≤ z := by omega
      have hpcI : (x.p : Int) ≤ cS := by omega
      have hp0 : (0 : Int) ≤ x.p := by omega
      obtain ⟨ad, had⟩ : ∃ ad, ad = (if cS = x.p then some (⟨s, 0, none⟩ : Addr) else (some (⟨s, 0, none⟩ : Addr)).map (·.add (x.p * 1))) := ⟨_, rfl⟩
      have hsl : ∀ W : World, (Instr.sliceAt 33 (.slice (some ⟨s, 0, none⟩) z cS) (some (.int .i64 (x.p : Int))) none none).run Tryz.prog W = .ok (.slice ad (z - x.p) (cS - x.p)) W := by
        intro W
        rw [had]
        exact run_slice_lo (P := Tryz.prog) 33 Tryz.underlying33 (by kernel_rfl) _ z cS W x.p hpz
      obtain ⟨W1, hW1⟩ : ∃ W1, W1 = wr.alloc (.cells #[.int .i64 (x.p : Int), .slice x.A x.n x.m] 128) := ⟨_, rfl⟩
      have hi1 : DS W1 L g { D with safe := lain D.safe (D.q.take j) } z s o cS cO (some ⟨b, q0, none⟩) nq cQ qs := by subst hW1; exact Hi.out.alloc _
      have hb1 : Below wr.heap.size wr W1 := by subst hW1; exact (Below.refl _ _).alloc (Nat.le_refl _) _
      have x1 : Bx W1 wr.heap.size #[.int .i64 (x.p : Int), .slice x.A x.n x.m] := by subst hW1; exact Bx.new _ _ _ rfl
      have hr1 := hxd.1.below hb1
      obtain ⟨v0, v1, -, -⟩ := x1.c2
      have v2 := hi1.c.1
      have Had := Lib.hid had
      have HW := Lib.hid hW1
      have Hi1 := Lib.hid hi1
      have Hr1 := Lib.hid hr1
      have Hb1 := Lib.hid hb1
      clear had hW1 hi1 x1 hr1 hb1 hxd
      go_wp2_with fail
      rw [← HW.out]
      go_still_tail 9, (by kernel_rfl)
      change wpList _ _ _ _ _ W1.drew
      refine wpList_copy_into rfl _ _ _ _ rfl 5 Tryz.underlying33 (by kernel_rfl) _ _ _ _ _ _ rfl rfl s x.p z cS _ (bs x.d) Hi1.out.drew.safe Hr1.out.drew ?_ ?_ ?_ (bs_one _) ?_
      · intro h0
        rw [Had.out, if_neg (by rw [bs_length] at h0; omega)]
        simp [Addr.add]
        omega
      · omega
      · rw [bs_length]; omega
      · intro w2 ho2 hy2
        have hnext := Hi1.out.drew.layS ho2 hy2
        have hkn : Kept L w w2 := (Hk.out.trans (V := L) (Kept.of_new Hb1.out) fun b _ h => h).drew.trans (V := L) (hy2.kept Hi1.out.ls) fun b _ h => h
        have hq2 : lain D.safe (D.q.take (j + 1)) = splice (lain D.safe (D.q.take j)) x.p x.d := by
          rw [List.take_add_one, hq]
          exact lain_one
        have Hnext := Lib.hid hnext
        have Hkn := Lib.hid hkn
        have Hq2 := Lib.hid hq2
        clear hnext hkn hq2
        go_wp2_with fail
        go_roundg (nq - (j + 1))
        case measure => have := Hm.out; omega
        case rel => exact ⟨j + 1, rfl, by omega, by go_num, by rw [Hq2.out]; exact Hnext.out, Hkn.out⟩
    · obtain rfl : j = nq := by omega
      obtain ⟨w2, xs2, hrun, hown2, hq2⟩ := run_clear_any (P := Tryz.prog) wr 122 128 0 (.agg #[.int .i64 0, .slice none 0 0]) 2 Tryz.underlying122 (by intro w; kernel_rfl) rfl (by intro i hi; match i with | 0 => rfl | 1 => rfl | (i + 2) => omega) Hi.out.que
      have k5 : w2.cell? ⟨g, 2, none⟩ = some (.slice Q j cQ) := by
        have := (Hi.out.bx.keep (hq2.block g Hi.out.gq)).c 2
        exact this
      have k6 : w2.frozen? ⟨g, 2, none⟩ = false := (Hi.out.bx.keep (hq2.block g Hi.out.gq)).f 2
      have hown0 : w2.ownsRow 0 128 2 (.slice Q 0 cQ) 0 (flat wcell []) := by
        rcases hown2.2 with ⟨h1, h2⟩ | ⟨g', cap, cur, h1, h2, h3, h4, h5, h6, h7⟩
        · injection h1 with h1 h1' h1''
          subst h1 h1''
          exact own_nil _ _ _ _ _ rfl
        · injection h1 with h1 h1' h1''
          subst h1 h1''
          exact ⟨rfl, .inr ⟨g', cQ, cur, rfl, h2, h3, by omega, h5, h6, by simp [flat]⟩⟩
      have hset := Hi.out.cutQ hq2 rfl hown0 (fun y hy => by cases hy) rfl
      have hsl : ∀ W : World, (Instr.sliceAt 122 (.slice Q j cQ) none (some (.int .i64 0)) none).run Tryz.prog W = .ok (.slice Q 0 cQ) W := by
        intro W
        have := run_slice_hi (P := Tryz.prog) 122 Tryz.underlying122 (size := 2) (by kernel_rfl) Q j cQ W 0 (Nat.zero_le _)
        rw [show ((0 : Nat) : Int) = 0 from rfl] at this
        rw [this]
        congr 2
        split
        · rfl
        · cases Q with
          | none => rfl
          | some a => simp [Addr.add]
      have hkf : Kept L w (w2.setCell ⟨g, 2, none⟩ (.slice Q 0 cQ)) := (Hk.out.trans (V := L) (hq2.kept fun b hb => Hi.out.lq b hb) fun b _ h => h).set Hi.out.lg _
      have Hset := Lib.hid hset
      have Hkf := Lib.hid hkf
      have Hql := Lib.hid (show D.q.take j = D.q from List.take_of_length_le (by have := Hi.out.qlen; exact Nat.le_of_eq this))
      clear hset hkf hown0 hown2 hq2
      go_wp2_with fail
      go_end0
      have h2 := Hset.out
      rw [Hql.out] at h2
      exact ⟨rfl, ⟨s, o, cS, cO, Q, 0, cQ, [], h2⟩, Hkf.out⟩
end
end Go.Proofs.YtlecglmiigdjlaaGreatDoor
namespace Go.Proofs.YtlecglmiigdjlaaGreatDoor
open Go.RowKit
set_option maxRecDepth 100000
set_option linter.unusedVariables false
set_option linter.unusedSimpArgs false
theorem wr_elem : Elem Tryz.prog 128 (.agg #[.int .i64 0, .slice none 0 0]) 2 32 := by unfold Elem; kernel_rfl
theorem Rd.wlit (w : World) {cs : Array Value} (t : TypeId) {fr : Nat × Nat} (hk : cs.size = 2) : Rd (w.alloc (.cells cs t fr)) T 2 (some ⟨w.heap.size, 0, none⟩) 1 cs.toList :=
  ⟨by simp [hk], fun _ => ⟨_, rfl, trivial, fun j u hu => World.news_of_block (heap_alloc_new w _) j u hu⟩⟩
def WritePost (W : World) (L : Nat → Prop) (g : Nat) (D : Dk) (z : Nat) (p : Int) (b : List UInt8) (e : Ending) (w' : World) : Prop := e = .returned (errD (D.write p b).2) ∧ Aft W L g (D.write p b).1 z w'
section
variable {L : Nat → Prop} {g : Nat} {D : Dk} {z s o cS cO : Nat} {Q : Option Addr} {nq cQ : Nat} {qs : List Wq}
theorem errD_nil : errD 0 = .nilIface := rfl
theorem errD_ne {k : Int} (h : k ≠ 0) : errD k = .iface 69 (.int .i64 k) := by unfold errD; rw [if_neg h]
/-- Where the bytes do not fit, or the power is gone. -/
theorem write_no (p : Int) (A : Option Addr) (n c : Nat) (b : List UInt8) (hp : I64 p) (hn : (n : Int) ≤ 9223372036854775807) (hb : b.length = n) (w : World) (h : DS w L g D z s o cS cO Q nq cQ qs) (hk : D.Ok z) (h0 : D.withE p b.length ≠ 0) :
    Calls Tryz.prog 83 #[.pointer (some ⟨g, 0, none⟩), .int .i64 p, .slice A n c] w (WritePost w L g D z p b) := by
  have e0 : D.write p b = (D, D.withE p b.length) := by unfold Dk.write; rw [if_neg h0]
  unfold WritePost
  rw [e0]
  dsimp only
  have hw := within_any p n hp (by unfold I64; omega) w h
  rw [← hb] at hw
  have H := Lib.hid (h.x hk)
  rw [hb] at hw h0 ⊢
  rcases D.withE_or (p := p) (n := n) with e | e | e
  · exact absurd e h0
  · rw [e] at hw ⊢
    clear h h0 e e0
    go_enter Tryz.func83, Tryz.ntmps83
    go_wp2_with fail
    refine hw.mono ?_
    rintro e w' ⟨rfl, hbe⟩
    rw [errD_ne (by decide)]
    go_wp2_with fail
    go_ret
    exact ⟨rfl, Aft.new H.out hbe⟩
  · rw [e] at hw ⊢
    clear h h0 e e0
    go_enter Tryz.func83, Tryz.ntmps83
    go_wp2_with fail
    refine hw.mono ?_
    rintro e w' ⟨rfl, hbe⟩
    rw [errD_ne (by decide)]
    go_wp2_with fail
    go_ret
    exact ⟨rfl, Aft.new H.out hbe⟩
set_option maxHeartbeats 3200000 in
theorem write_yes (p : Nat) (A : Option Addr) (n c : Nat) (b : List UInt8) (w : World) (h : DS w L g D z s o cS cO Q nq cQ qs) (hk : D.Ok z) (hr : Rd w (fun k => ¬ L k) 1 A n (bs b)) (hp : p + n ≤ z) (hoff : D.off = false) (hnq : nq ≤ 1000000) :
    Calls Tryz.prog 83 #[.pointer (some ⟨g, 0, none⟩), .int .i64 p, .slice A n c] w (fun e w' => e = .returned (errD D.stepE) ∧ Aft w L g (D.put p b).stepped z w') := by
  have hbn := hr.blen
  have hw := within_any p n (by unfold I64; have := h.z2; omega) (by unfold I64; have := h.z2; omega) w h
  have e0 : D.withE p n = 0 := by rw [Dk.withE_iff hk]; exact ⟨⟨by omega, by omega, by omega⟩, hoff⟩
  rw [e0] at hw
  have hz2 := h.z2
  have H := Lib.hid h
  have Hr := Lib.hid hr
  clear h hr
  go_enter Tryz.func83, Tryz.ntmps83
  go_wp2_with fail
  refine hw.mono ?_
  rintro e w1 ⟨rfl, hb1⟩
  rw [errD_nil]
  have h1 := H.out.below hb1
  obtain ⟨-, -, k2, -, -⟩ := h1.c
  have r1 := Hr.out.below hb1
  have H1 := Lib.hid h1
  have R1 := Lib.hid r1
  have Hb1 := Lib.hid hb1
  clear h1 r1 hb1
  have f2 : w1.frozen? ⟨g, 2, none⟩ = false := H1.out.bx.f 2
  have k2d : w1.drew.cell? ⟨g, 2, none⟩ = some (.slice Q nq cQ) := k2
  have hclone := clone_any A n c (bs b) w1.drew R1.out.drew (bs_one b) (by omega)
  have Hc := Lib.hid hclone
  clear hclone
  go_upto_region 4 with (fail)
  go_cut [] (fun W => ∃ L' Q' nq' cQ' qs', DS W L' g { D with q := D.q ++ [(p, b)] } z s o cS cO Q' nq' cQ' qs' ∧ (∀ k, L' k → L k ∨ w.heap.size ≤ k) ∧ Kept L w W)
  case first =>
    have hszd : w1.drew.heap.size = w1.heap.size := rfl
    go_region_law (first
      | (rw [if_pos (by rfl)]; go_simp; go_at_call 58; refine Hc.out.mono ?_; rintro e w3 ⟨A3, c3, rfl, hown3, hb5⟩; have v2' : w3.cell? ⟨g, 2, none⟩ = some (.slice Q nq cQ) := (H1.out.bx.drew.below hb5).c 2; have v2a : ∀ ob, (w3.alloc ob).cell? ⟨g, 2, none⟩ = some (.slice Q nq cQ) := fun ob => ((H1.out.bx.drew.below hb5).alloc ob).c 2)
      | (refine step_append_any (news := [.int .i64 (p : Int), .slice A3 n c3]) _ Tryz.underlying122 wr_elem rfl (by omega) rfl rfl rfl ((own_below H1.out.drew.que hb5).alloc _) rfl (Rd.wlit _ _ rfl) (by intro u hu; simp only [List.mem_cons, List.not_mem_nil, or_false] at hu; rcases hu with rfl | rfl <;> rfl) (by omega) (Nat.zero_le _) rfl rfl ?_; intro A4 c4 w4 hown4 hg4 hat4; have hx4 := (((H1.out.bx.drew.below hb5).alloc _).grown hg4 H1.out.gq); have m1 := hx4.c 2; have m2 := hx4.f 2))
    all_goals
      go_wp2_with fail
      go_meet
      case rel =>
        have h3 := (H1.out.drew.below hb5).alloc (.cells #[.int .i64 (p : Int), .slice A3 n c3] 128)
        have hl1 := H1.out.lt
        have hz5 := hb5.size
        have hA3 := own_lt hown3
        have hz1 := Hb1.out.size
        refine ⟨_, _, _, _, _, h3.push (hown3.alloc _) (fun k hk' hL => by have := (hA3 k hk').1; have := hl1 k hL; rw [hszd] at *; omega) rfl hown4 hg4 hat4, ?_, ?_⟩
        · intro k hk'
          rcases hk' with h7 | h7 | h7
          · exact .inl h7
          · have := (hA3 k h7).1
            exact .inr (by rw [hszd] at this; omega)
          · rcases hat4 with h8 | h8
            · exact .inl (H1.out.lq k (by rw [← h8]; exact h7))
            · rw [h8] at h7
              injection h7 with h7
              exact .inr (by rw [hszd] at hz5; simp at h7; omega)
        · have q1 : Kept L w w3 := (Kept.of_new Hb1.out).trans (V := L) (Kept.of_new (Below.trans (Below.refl _ _).drew hb5)) fun _ _ h => h
          exact ((q1.alloc _).grown hg4 fun k hk' => H1.out.lq k hk').set H1.out.lg _
  case rest =>
    obtain ⟨L', Q', nq', cQ', qs', h2, hl2, hkp⟩ := hcut
    obtain ⟨-, c1, -, -, -⟩ := h2.c
    have hzc := h2.zc
    have hr2 : Rd wc T 1 A n (bs b) := by
      have r := (Hr.out.lt (by omega)).keep (w' := wc) fun k hk' hlt => hkp.block k hlt hk'.1
      exact r.any
    have hnl : p ≤ z := by omega
    have hpcI : (p : Int) ≤ cO := by omega
    have hpzI : (p : Int) ≤ z := by omega
    have hp0 : (0 : Int) ≤ p := by omega
    obtain ⟨ad, had⟩ : ∃ ad, ad = (if cO = p then some (⟨o, 0, none⟩ : Addr) else (some (⟨o, 0, none⟩ : Addr)).map (·.add (p * 1))) := ⟨_, rfl⟩
    have hsl : ∀ W : World, (Instr.sliceAt 33 (.slice (some ⟨o, 0, none⟩) z cO) (some (.int .i64 (p : Int))) none none).run Tryz.prog W = .ok (.slice ad (z - p) (cO - p)) W := by
      intro W
      rw [had]
      exact run_slice_lo (P := Tryz.prog) 33 Tryz.underlying33 (by kernel_rfl) _ z cO W p hnl
    have hdp : 0 < (bs b).length → ad = some ⟨o, p, none⟩ := by
      intro h0
      rw [had, if_neg (by rw [bs_length] at h0; omega)]
      simp [Addr.add]
      omega
    have hstep : ∀ w4, w4.ownsRow 0 5 1 (.slice (some ⟨o, 0, none⟩) z cO) z (splice (bs D.now) p (bs b)) → Only o wc w4 → Calls Tryz.prog 115 #[.pointer (some ⟨g, 0, none⟩)] w4 (StepPost w4 L' g (D.put p b) z s o cS cO Q' nq' cQ' qs') := fun w4 ho hy => step_any w4 (h2.layN ho hy) (hk.put (by omega))
    have Hstep := Lib.hid hstep
    have H2 := Lib.hid h2
    have Hl2 := Lib.hid hl2
    have Hkp := Lib.hid hkp
    have Hr2 := Lib.hid hr2
    have Hdp := Lib.hid hdp
    have hbz : (bs b).length = n := by rw [bs_length]; exact hbn
    have Hbz := Lib.hid hbz
    clear had h2 hl2 hkp hr2 k2 f2 k2d hstep hdp hbz
    go_wp2_with (refine wpList_copy_into rfl _ _ _ _ rfl 5 Tryz.underlying33 (by kernel_rfl) _ _ _ _ _ _ rfl rfl o p z cO _ (bs b) H2.out.now Hr2.out Hdp.out (by omega) (by rw [Hbz.out]; exact hp) (bs_one _) ?_; intro w4 ho4 hy4)
    refine (Hstep.out _ ho4 hy4).mono ?_
    rintro e w5 ⟨rfl, h5, ho5⟩
    go_wp2_with fail
    go_ret
    refine ⟨rfl, L', h5.x (Dk.Ok.stepped (hk.put (by omega))), Hl2.out, ?_⟩
    have hk5 : Kept L' wc w5 := (hy4.kept H2.out.lo).trans (V := L') (ho5.kept H2.out.lg) fun _ _ h => h
    exact Hkp.out.next hk5 Hl2.out
end
theorem Dk.off_of {D : Dk} {z : Nat} (hk : D.Ok z) {p n : Int} (h : D.withE p n = 0) : D.off = false := ((Dk.withE_iff hk).1 h).2
/-- Write, at any place. -/
theorem write_any {L : Nat → Prop} {g : Nat} {D : Dk} {z : Nat} (p : Int) (A : Option Addr) (n c : Nat) (b : List UInt8) (w : World) (h : DX w L g D z) (hr : Rd w (fun k => ¬ L k) 1 A n (bs b)) (hp : I64 p) (hn : (n : Int) ≤ 9223372036854775807) (hnq : D.q.length ≤ 1000000) :
    Calls Tryz.prog 83 #[.pointer (some ⟨g, 0, none⟩), .int .i64 p, .slice A n c] w (WritePost w L g D z p b) := by
  obtain ⟨s, o, cS, cO, Q, nq, cQ, qs, h, hk⟩ := h
  have hbn := hr.blen
  by_cases h0 : D.withE p b.length = 0
  · have h1 := (Dk.withE_iff hk).1 h0
    obtain ⟨p', rfl⟩ := Int.eq_ofNat_of_zero_le h1.1.1
    refine (write_yes p' A n c b w h hk hr (by omega) h1.2 (by rw [← h.qlen]; exact hnq)).mono ?_
    rintro e w' ⟨rfl, ha⟩
    have e0 : D.write p' b = ((D.put p' b).stepped, D.stepE) := by
      unfold Dk.write
      rw [if_pos h0]
      rfl
    unfold WritePost
    rw [e0]
    exact ⟨rfl, ha⟩
  · exact write_no p A n c b hp hn hbn w h hk h0
def ReadPost (W : World) (b : List UInt8) (k : Int) (e : Ending) (w' : World) : Prop := ∃ A c, e = .returned (.tuple #[.slice A b.length c, errD k]) ∧ Rd w' (W.heap.size ≤ ·) 1 A b.length (bs b) ∧ Below W.heap.size W w'
theorem own_up {W : World} {B B' : Nat} {e : TypeId} {size n m c : Nat} {A : Option Addr} {xs : List Value} (ho : W.ownsRow B e size (.slice A n c) m xs) (hB : B' ≤ B) : W.ownsRow B' e size (.slice A n c) m xs := by
  refine ⟨ho.1, ?_⟩
  rcases ho.2 with h1 | ⟨g, cap, cur, h1, h2, h4⟩
  · exact .inl h1
  · exact .inr ⟨g, cap, cur, h1, Nat.le_trans hB h2, h4⟩
/-- The bytes that are read: a row of the caller's own. -/
def ReadOwn (W : World) (b : List UInt8) (k : Int) (e : Ending) (w' : World) : Prop := ∃ A c, e = .returned (.tuple #[.slice A b.length c, errD k]) ∧ w'.ownsRow W.heap.size 5 1 (.slice A b.length c) b.length (bs b) ∧ Below W.heap.size W w'
set_option maxHeartbeats 1600000 in
theorem read_own {L : Nat → Prop} {g : Nat} {D : Dk} {z : Nat} (p n : Int) (w : World) (h : DX w L g D z) (hp : I64 p) (hn : I64 n) :
    Calls Tryz.prog 82 #[.pointer (some ⟨g, 0, none⟩), .int .i64 p, .int .i64 n] w (ReadOwn w (D.read p n).1 (D.read p n).2) := by
  obtain ⟨s, o, cS, cO, Q, nq, cQ, qs, h, hk⟩ := h
  have hw := within_any p n hp hn w h
  unfold Dk.read
  by_cases h0 : D.withE p n = 0
  · rw [if_pos h0]
    dsimp only
    have h1 := (Dk.withE_iff hk).1 h0
    obtain ⟨p', rfl⟩ := Int.eq_ofNat_of_zero_le h1.1.1
    obtain ⟨n', rfl⟩ := Int.eq_ofNat_of_zero_le h1.1.2.1
    rw [h0] at hw
    simp only [Int.toNat_natCast]
    have hl : ((D.now.drop p').take n').length = n' := by
      have := h.nlen
      simp
      omega
    have hl' : (bs ((D.now.drop p').take n')).length = n' := by rw [bs_length]; exact hl
    obtain ⟨l, hle⟩ : ∃ l, l = (D.now.drop p').take n' := ⟨_, rfl⟩
    rw [← hle] at hl hl' ⊢
    have H := Lib.hid h
    have Hle := Lib.hid hle
    have hz2 := h.z2
    have hzc := h.zc
    have Hl := Lib.hid hl
    clear h hle hl hl' h0
    have hpn : (p' : Int) ≤ ((p' + n' : Nat) : Int) := by omega
    unfold ReadOwn
    rw [Hl.out]
    go_enter Tryz.func82, Tryz.ntmps82
    go_wp2_with fail
    refine hw.mono ?_
    rintro e w1 ⟨rfl, hb1⟩
    rw [errD_nil]
    have h1 := H.out.below hb1
    obtain ⟨-, c1, -, -, -⟩ := h1.c
    have hrun := run_slice_lohi (P := Tryz.prog) 33 Tryz.underlying33 (size := 1) (by kernel_rfl) (some ⟨o, 0, none⟩) z cO
    obtain ⟨ad, had⟩ : ∃ ad, ad = (if cO = p' then some (⟨o, 0, none⟩ : Addr) else (some (⟨o, 0, none⟩ : Addr)).map (·.add (p' * 1))) := ⟨_, rfl⟩
    have hsl : ∀ W : World, (Instr.sliceAt 33 (.slice (some ⟨o, 0, none⟩) z cO) (some (.int .i64 (p' : Int))) (some (.int .i64 ((p' : Int) + n'))) none).run Tryz.prog W = .ok (.slice ad n' (cO - p')) W := by
      intro W
      have := hrun W p' (p' + n') (by omega) (by omega)
      rw [← had] at this
      rw [show ((p' : Int) + n') = ((p' + n' : Nat) : Int) by push_cast; rfl, this, show p' + n' - p' = n' by omega]
    have hrd := (Rd.of_own h1.now).bsub (i := p') (k := n') (m := cO) (by omega) (by omega)
    have e1 : (if cO = p' then some (⟨o, 0, none⟩ : Addr) else (some (⟨o, 0, none⟩ : Addr)).map (·.add p')) = ad := by rw [had, Nat.mul_one]
    rw [e1, ← Hle.out] at hrd
    have hcl := clone_any ad n' (cO - p') (bs l) w1 hrd (bs_one l) (by omega)
    have Hcl := Lib.hid hcl
    have Hb1 := Lib.hid hb1
    clear hcl hb1 hrd hrun had e1 h1
    go_wp2_with fail
    refine Hcl.out.mono ?_
    rintro e w2 ⟨A2, c2, rfl, hown2, hb2⟩
    go_wp2_with fail
    go_ret2
    exact ⟨A2, c2, rfl, own_up hown2 Hb1.out.size, Hb1.out.trans (hb2.mono Hb1.out.size)⟩
  · rw [if_neg h0]
    dsimp only
    have e1 : errD (D.withE p n) = .iface 69 (.int .i64 (D.withE p n)) := errD_ne h0
    have H := Lib.hid h
    unfold ReadOwn
    generalize D.withE p n = k at hw h0 e1 ⊢
    rw [e1]
    clear h
    unfold ErrPost at hw
    rw [e1] at hw
    go_enter Tryz.func82, Tryz.ntmps82
    go_wp2_with fail
    refine hw.mono ?_
    rintro e w1 ⟨rfl, hb1⟩
    go_wp2_with fail
    go_ret2
    exact ⟨none, 0, rfl, own_nil _ _ _ _ _ rfl, hb1⟩
theorem dread_any {L : Nat → Prop} {g : Nat} {D : Dk} {z : Nat} (p n : Int) (w : World) (h : DX w L g D z) (hp : I64 p) (hn : I64 n) :
    Calls Tryz.prog 82 #[.pointer (some ⟨g, 0, none⟩), .int .i64 p, .int .i64 n] w (ReadPost w (D.read p n).1 (D.read p n).2) := by
  refine (read_own p n w h hp hn).mono ?_
  rintro e w' ⟨A, c, rfl, h1, h2⟩
  exact ⟨A, c, rfl, Rd.of_own h1, h2⟩
def SyncPost (W : World) (L : Nat → Prop) (g : Nat) (D : Dk) (z : Nat) (e : Ending) (w' : World) : Prop := e = .returned (errD D.sync.2) ∧ Aft W L g D.sync.1 z w'
theorem sync_any {L : Nat → Prop} {g : Nat} {D : Dk} {z : Nat} (w : World) (h : DX w L g D z) (hnq : D.q.length ≤ 1000000) :
    Calls Tryz.prog 84 #[.pointer (some ⟨g, 0, none⟩)] w (SyncPost w L g D z) := by
  obtain ⟨s, o, cS, cO, Q, nq, cQ, qs, h, hk⟩ := h
  have hw := within_any 0 0 (by unfold I64; omega) (by unfold I64; omega) w h
  have H := Lib.hid h
  unfold SyncPost Dk.sync
  by_cases h0 : D.withE 0 0 = 0
  · rw [if_pos h0]
    rw [h0] at hw
    have hst : ∀ w1, Below w.heap.size w w1 → Calls Tryz.prog 115 #[.pointer (some ⟨g, 0, none⟩)] w1 (StepPost w1 L g D z s o cS cO Q nq cQ qs) := fun w1 hb => step_any w1 (H.out.below hb) hk
    by_cases h1 : D.armed = 1
    · rw [if_pos h1]
      dsimp only
      have e1 : D.stepE = 13 := by unfold Dk.stepE; rw [if_pos h1]
      unfold StepPost at hst
      rw [e1, errD_ne (by decide)] at hst
      rw [errD_ne (by decide)]
      clear h h0
      go_enter Tryz.func84, Tryz.ntmps84
      go_wp2_with fail
      refine hw.mono ?_
      rintro e w1 ⟨rfl, hb1⟩
      rw [errD_nil]
      go_wp2_with fail
      refine (hst w1 hb1).mono ?_
      rintro e w2 ⟨rfl, h2, ho2⟩
      go_wp2_with fail
      go_ret
      exact ⟨rfl, L, h2.x hk.stepped, fun b hb => .inl hb, (Kept.of_new hb1).trans (V := L) (ho2.kept h2.lg) fun _ _ h => h⟩
    · rw [if_neg h1]
      dsimp only
      have e1 : D.stepE = 0 := by unfold Dk.stepE; rw [if_neg h1]
      have q1 : D.stepped.q = D.q := by unfold Dk.stepped; split <;> rfl
      unfold StepPost at hst
      rw [e1, errD_nil] at hst
      rw [errD_nil]
      have hset : ∀ w2, DS w2 L g D.stepped z s o cS cO Q nq cQ qs → Calls Tryz.prog 57 #[.pointer (some ⟨g, 0, none⟩)] w2 (SetPost w2 L g D.stepped z) := fun w2 h2 => settle_any w2 h2 (by rw [q1]; exact hk.fit) (by rw [← h.qlen]; exact hnq)
      have Hset := Lib.hid hset
      clear h h0 hset
      go_enter Tryz.func84, Tryz.ntmps84
      go_wp2_with fail
      refine hw.mono ?_
      rintro e w1 ⟨rfl, hb1⟩
      rw [errD_nil]
      go_wp2_with fail
      refine (hst w1 hb1).mono ?_
      rintro e w2 ⟨rfl, h2, ho2⟩
      go_wp2_with fail
      refine (Hset.out w2 h2).mono ?_
      rintro e w3 ⟨rfl, ⟨_, _, _, _, _, _, _, _, h3⟩, hk3⟩
      go_wp2_with fail
      go_ret
      exact ⟨rfl, L, h3.x hk.stepped.settled, fun b hb => .inl hb, ((Kept.of_new hb1).trans (V := L) (ho2.kept h2.lg) fun _ _ h => h).trans (V := L) hk3 fun _ _ h => h⟩
  · rw [if_neg h0]
    dsimp only
    have e1 : errD (D.withE 0 0) = .iface 69 (.int .i64 (D.withE 0 0)) := errD_ne h0
    have hx := h.x hk
    generalize D.withE 0 0 = k at hw h0 e1 ⊢
    rw [e1]
    clear h
    unfold ErrPost at hw
    rw [e1] at hw
    go_enter Tryz.func84, Tryz.ntmps84
    go_wp2_with fail
    refine hw.mono ?_
    rintro e w1 ⟨rfl, hb1⟩
    go_wp2_with fail
    go_ret
    exact ⟨rfl, Aft.new hx hb1⟩
end Go.Proofs.YtlecglmiigdjlaaGreatDoor
namespace Go.Proofs.YtlecglmiigdjlaaGreatDoor
open Go.RowKit
set_option maxRecDepth 100000
set_option linter.unusedVariables false
set_option linter.unusedSimpArgs false
def tcells (g : Nat) (t : Tp) : Array Value := #[.pointer (some ⟨g, 0, none⟩), .int .i64 (t.en : Nat), .int .i64 (t.fr : Nat), .int .i64 (t.p : Nat), .int .i64 (t.n : Nat), errD t.dead]
/-- A tape at tg, on the disk at g. -/
structure TDX (W : World) (L : Nat → Prop) (tg g : Nat) (t : Tp) (D : Dk) (z : Nat) : Prop where
  dx : DX W L g D z
  bx : Bx W tg (tcells g t)
  nl : ¬ L tg
  ok : t.Ok z
def AftT (W : World) (L : Nat → Prop) (tg g : Nat) (t : Tp) (D : Dk) (z : Nat) (w' : World) : Prop := ∃ L', TDX w' L' tg g t D z ∧ (∀ b, L' b → L b ∨ W.heap.size ≤ b) ∧ Kept (fun b => L b ∨ b = tg) W w'
section
variable {W W' W2 : World} {L L' : Nat → Prop} {tg g : Nat} {t t' : Tp} {D D' : Dk} {z : Nat}
theorem DX.z2 (h : DX W L g D z) : z ≤ 4194304 := by
  obtain ⟨_, _, _, _, _, _, _, _, h, _⟩ := h
  exact h.z2
theorem TDX.c (h : TDX W L tg g t D z) : W.cell? ⟨tg, 0, none⟩ = some (.pointer (some ⟨g, 0, none⟩)) ∧ W.cell? ⟨tg, 1, none⟩ = some (.int .i64 (t.en : Nat)) ∧ W.cell? ⟨tg, 2, none⟩ = some (.int .i64 (t.fr : Nat)) ∧ W.cell? ⟨tg, 3, none⟩ = some (.int .i64 (t.p : Nat)) ∧ W.cell? ⟨tg, 4, none⟩ = some (.int .i64 (t.n : Nat)) ∧ W.cell? ⟨tg, 5, none⟩ = some (errD t.dead) := ⟨h.bx.c 0, h.bx.c 1, h.bx.c 2, h.bx.c 3, h.bx.c 4, h.bx.c 5⟩
theorem TDX.lt (h : TDX W L tg g t D z) : tg < W.heap.size := h.bx.lt
theorem TDX.keep (h : TDX W L tg g t D z) (hk : ∀ b, L b ∨ b = tg → W'.heap[b]? = W.heap[b]?) (hz : W.heap.size ≤ W'.heap.size) : TDX W' L tg g t D z := ⟨h.dx.keep (fun b hb => hk b (.inl hb)) hz, h.bx.keep (hk tg (.inr rfl)), h.nl, h.ok⟩
theorem TDX.below (h : TDX W L tg g t D z) (hb : Below W.heap.size W W') : TDX W' L tg g t D z := ⟨h.dx.below hb, h.bx.below hb, h.nl, h.ok⟩
theorem TDX.drew (h : TDX W L tg g t D z) : TDX W.drew L tg g t D z := h.keep (fun _ _ => rfl) (Nat.le_refl _)
theorem TDX.drewN (h : TDX W L tg g t D z) (k : Nat) : TDX (W.drewN k) L tg g t D z := h.keep (fun _ _ => rfl) (Nat.le_refl _)
/-- The disk alone has gone on. -/
theorem TDX.aft (h : TDX W L tg g t D z) (ha : Aft W L g D' z W') : ∃ L', TDX W' L' tg g t D' z ∧ (∀ b, L' b → L b ∨ W.heap.size ≤ b) ∧ Kept L W W' := by
  obtain ⟨L', h1, h2, h3⟩ := ha
  refine ⟨L', ⟨h1, h3.bx h.bx h.nl, fun hl => ?_, h.ok⟩, h2, h3⟩
  rcases h2 _ hl with h4 | h4
  · exact h.nl h4
  · have := h.lt
    omega
theorem TDX.set (h : TDX W L tg g t D z) {i : Nat} {v : Value} (hb : (tcells g t).setIfInBounds i v = tcells g t') (hok : t'.Ok z) : TDX (W.setCell ⟨tg, i, none⟩ v) L tg g t' D z :=
  ⟨h.dx.keep (fun b hb => Below.heap_setCell _ _ _ b (fun e => h.nl (by rw [← show b = tg from e]; exact hb))) (by simp [World.setCell]), hb ▸ h.bx.set i v, h.nl, hok⟩
theorem AftT.refl (h : TDX W L tg g t D z) : AftT W L tg g t D z W := ⟨L, h, fun b hb => .inl hb, Kept.refl _ _⟩
theorem AftT.new {w : World} (h : TDX W L tg g t D z) (hb : Below W.heap.size W w) : AftT W L tg g t D z w := ⟨L, h.below hb, fun b hb => .inl hb, Kept.of_new hb⟩
theorem Kept.or (h : Kept L W W') : Kept (fun b => L b ∨ b = tg) W W' := ⟨h.os, h.tape, h.output, h.size, fun i hi hu => h.block i hi fun hl => hu (.inl hl)⟩
theorem AftT.next (h : Kept (fun b => L b ∨ b = tg) W W') (hl : ∀ b, L' b → L b ∨ W.heap.size ≤ b) (h2 : AftT W' L' tg g t D z W2) : AftT W L tg g t D z W2 := by
  obtain ⟨L2, k1, k2, k3⟩ := h2
  refine ⟨L2, k1, fun b hb => ?_, h.trans k3 fun b hb h3 => ?_⟩
  · rcases k2 b hb with h3 | h3
    · exact hl b h3
    · exact .inr (Nat.le_trans h.size h3)
  · rcases h3 with h3 | h3
    · rcases hl b h3 with h4 | h4
      · exact .inl h4
      · omega
    · exact .inr h3
/-- A call that leaves the disk, the tape as they were. -/
theorem AftT.behind {w : World} (hb : Below W.heap.size W W') (h2 : AftT W' L tg g t D z w) : AftT W L tg g t D z w := AftT.next (L' := L) (Kept.of_new hb) (fun b hb => .inl hb) h2
theorem place_any (w : World) (h : TDX w L tg g t D z) : Calls Tryz.prog 45 #[.pointer (some ⟨tg, 0, none⟩)] w (fun e w' => e = .returned (.bool (decide (t.p + 5 ≤ t.en))) ∧ ∃ k, w' = w.drewN k) := by
  obtain ⟨c0, c1, c2, c3, c4, c5⟩ := h.c
  have hz := h.dx.z2
  obtain ⟨o1, o2, o3, o4⟩ := h.ok
  have e1 : decide (t.p + 5 ≤ t.en) = decide ((5 : Int) ≤ (t.en : Int) - (t.p : Int)) := by
    apply Bool.eq_iff_iff.2
    simp only [decide_eq_true_eq]
    omega
  have s1 : -9223372036854775808 ≤ (t.en : Int) - t.p := by omega
  have s2 : (t.en : Int) - t.p < 9223372036854775808 := by omega
  rw [e1]
  clear c0 c2 c4 c5 h e1
  go_enter Tryz.func45, Tryz.ntmps45
  go_wp2_with fail
  go_quiet (fail)
  go_wp2_with fail
  go_ret
  exact ⟨rfl, _, rfl⟩
theorem len_any (w : World) (h : TDX w L tg g t D z) : Calls Tryz.prog 71 #[.pointer (some ⟨tg, 0, none⟩)] w (fun e w' => e = .returned (.int .i64 (t.n : Nat)) ∧ w' = w) := by
  obtain ⟨c0, c1, c2, c3, c4, c5⟩ := h.c
  clear c0 c1 c2 c3 c5 h
  go_enter Tryz.func71, Tryz.ntmps71
  go_wp2_with fail
  go_ret
  exact ⟨rfl, rfl⟩
theorem alive_any (w : World) (h : TDX w L tg g t D z) : Calls Tryz.prog 47 #[.pointer (some ⟨tg, 0, none⟩)] w (fun e w' => e = .returned (errD t.dead) ∧ w' = w) := by
  obtain ⟨c0, c1, c2, c3, c4, c5⟩ := h.c
  clear c0 c1 c2 c3 c4 h
  go_enter Tryz.func47, Tryz.ntmps47
  go_wp2_with fail
  go_ret
  exact ⟨rfl, rfl⟩
theorem room_any (w : World) (h : TDX w L tg g t D z) : Calls Tryz.prog 48 #[.pointer (some ⟨tg, 0, none⟩)] w (fun e w' => e = .returned (.int .i64 t.room) ∧ ∃ k, w' = w.drewN k) := by
  have hp := place_any w h
  have hc := h.c
  have hz := h.dx.z2
  obtain ⟨o1, o2, o3, o4⟩ := h.ok
  unfold Tp.room
  have Hc := Lib.hid hc
  clear hc h
  by_cases h1 : t.p + 5 ≤ t.en
  · have e1 : decide (t.p + 5 ≤ t.en) = true := by simp [h1]
    rw [e1] at hp
    rw [if_pos h1]
    have s1 : -9223372036854775808 ≤ (t.en : Int) - t.p := by omega
    have s2 : (t.en : Int) - t.p < 9223372036854775808 := by omega
    have s3 : -9223372036854775808 ≤ (t.en : Int) - t.p - 5 := by omega
    have s4 : (t.en : Int) - t.p - 5 < 9223372036854775808 := by omega
    go_enter Tryz.func48, Tryz.ntmps48
    go_wp2_with fail
    refine hp.mono ?_
    rintro e w1 ⟨rfl, k, rfl⟩
    obtain ⟨c0, c1, c2, c3, c4, c5⟩ := Hc.out
    go_wp2_with fail
    go_quiet (fail)
    go_wp2_with fail
    go_ret
    exact ⟨rfl, _, World.drewN_drewN ..⟩
  · have e1 : decide (t.p + 5 ≤ t.en) = false := by simp [h1]
    rw [e1] at hp
    rw [if_neg h1]
    go_enter Tryz.func48, Tryz.ntmps48
    go_wp2_with fail
    refine hp.mono ?_
    rintro e w1 ⟨rfl, k, rfl⟩
    go_wp2_with fail
    go_ret
    exact ⟨rfl, _, rfl⟩
theorem write_q (D : Dk) (p : Int) (b : List UInt8) : (D.write p b).1.q.length ≤ D.q.length + 1 := by
  unfold Dk.write
  split
  · have : (D.put p.toNat b).stepped.q = (D.put p.toNat b).q := by unfold Dk.stepped; split <;> rfl
    dsimp only
    rw [this]
    simp [Dk.put]
  · exact Nat.le_succ _
theorem errD_is (k : Int) : errD k = .nilIface ∨ errD k = .iface 69 (.int .i64 k) := by unfold errD; split; exact .inl rfl; exact .inr rfl
theorem tset5 {t : Tp} {g : Nat} (k : Int) : (tcells g t).setIfInBounds 5 (errD k) = tcells g { t with dead := k } := rfl
theorem Tp.Ok.dead {t : Tp} {z : Nat} (h : t.Ok z) (k : Int) : Tp.Ok { t with dead := k } z := ⟨h.fp, h.pe, h.ez, h.n5⟩
theorem Dk.safely_no {D : Dk} {p : Int} {b : List UInt8} (h : (D.write p b).2 ≠ 0) : D.safely p b = D.write p b := by unfold Dk.safely; rw [if_neg h]
theorem Dk.safely_yes {D : Dk} {p : Int} {b : List UInt8} (h : (D.write p b).2 = 0) : D.safely p b = (D.write p b).1.sync := by unfold Dk.safely; rw [if_pos h]
def TWPost (W : World) (L : Nat → Prop) (tg g : Nat) (t : Tp) (D : Dk) (z : Nat) (p : Int) (b : List UInt8) (e : Ending) (w' : World) : Prop := e = .returned (errD (D.safely p b).2) ∧ AftT W L tg g { t with dead := (D.safely p b).2 } (D.safely p b).1 z w'
set_option maxHeartbeats 800000 in
theorem twrite_any (p : Int) (A : Option Addr) (n c : Nat) (b : List UInt8) (w : World) (h : TDX w L tg g t D z) (hr : Rd w (fun k => ¬ L k) 1 A n (bs b)) (hp : I64 p) (hn : (n : Int) ≤ 9223372036854775807) (hnq : D.q.length ≤ 999999) :
    Calls Tryz.prog 49 #[.pointer (some ⟨tg, 0, none⟩), .int .i64 p, .slice A n c] w (TWPost w L tg g t D z p b) := by
  obtain ⟨c0, c1, c2, c3, c4, c5⟩ := h.c
  have hw := write_any p A n c b w h.dx hr hp hn (by omega)
  have hq1 := write_q D p b
  unfold WritePost at hw
  have H := Lib.hid h
  unfold TWPost
  by_cases h0 : (D.write p b).2 = 0
  · rw [Dk.safely_yes h0]
    rw [h0, errD_nil] at hw
    obtain ⟨D1, hD1⟩ : ∃ D1, D1 = (D.write p b).1 := ⟨_, rfl⟩
    rw [← hD1] at hw hq1 ⊢
    obtain ⟨k, hk⟩ : ∃ k, k = D1.sync.2 := ⟨_, rfl⟩
    rw [← hk]
    have Hk := Lib.hid hk
    have hV := errD_is k
    obtain ⟨V, hVk⟩ : ∃ V, V = errD k := ⟨_, rfl⟩
    rw [← hVk] at hV ⊢
    have HVk := Lib.hid hVk
    clear hr h h0 hD1 c1 c2 c3 c4 c5 hk hVk
    rcases hV with rfl | rfl
    all_goals
      go_enter Tryz.func49, Tryz.ntmps49
      go_wp2_with fail
      refine hw.mono ?_
      rintro e w1 ⟨rfl, haft⟩
      obtain ⟨L1, h1, k1, k2⟩ := H.out.aft haft
      obtain ⟨d0, d1, d2, d3, d4, d5⟩ := h1.c
      have f5 := h1.bx.f 5
      have h2 : TDX (w1.setCell ⟨tg, 5, none⟩ .nilIface) L1 tg g { t with dead := 0 } D1 z := h1.set (tset5 0) (h1.ok.dead 0)
      obtain ⟨e0, e1, e2, e3, e4, e5⟩ := h2.c
      have e5' : (w1.setCell ⟨tg, 5, none⟩ .nilIface).cell? ⟨tg, 5, none⟩ = some .nilIface := e5
      clear e5
      have f5' := h2.bx.f 5
      have hs := sync_any _ h2.dx (by omega)
      unfold SyncPost at hs
      rw [← Hk.out, ← HVk.out] at hs
      have Hs := Lib.hid hs
      have H2 := Lib.hid h2
      have K1 := Lib.hid k1
      have K2 := Lib.hid k2
      clear hw haft h1 hs h2 k1 k2 d1 d2 d3 d4 e1 e2 e3 e4 hq1
      go_wp2_with fail
      refine Hs.out.mono ?_
      rintro e w2 ⟨rfl, haft⟩
      obtain ⟨L2, h3, k3, k4⟩ := H2.out.aft haft
      obtain ⟨b0, b1, b2, b3, b4, b5⟩ := h3.c
      have g5 := h3.bx.f 5
      have h4 : TDX (w2.setCell ⟨tg, 5, none⟩ (errD k)) L2 tg g { t with dead := k } D1.sync.1 z := h3.set (tset5 k) (h3.ok.dead k)
      have y5 : (w2.setCell ⟨tg, 5, none⟩ (errD k)).cell? ⟨tg, 5, none⟩ = some (errD k) := h4.bx.c 5
      have hfin : AftT w L tg g { t with dead := k } D1.sync.1 z (w2.setCell ⟨tg, 5, none⟩ (errD k)) := by
        refine AftT.next (L' := L1) (W' := w1.setCell ⟨tg, 5, none⟩ .nilIface) ((K2.out.or).set (p := ⟨tg, 5, none⟩) (.inr rfl) _) K1.out ?_
        exact ⟨L2, h4, k3, (k4.or).set (p := ⟨tg, 5, none⟩) (.inr rfl) _⟩
      rw [← HVk.out] at hfin y5
      have Hfin := Lib.hid hfin
      clear haft h3 k3 k4 h4 hfin b1 b2 b3 b4
      go_wp2_with fail
      go_ret
      exact ⟨rfl, Hfin.out⟩
  · rw [Dk.safely_no h0]
    obtain ⟨k, hk⟩ : ∃ k, k = (D.write p b).2 := ⟨_, rfl⟩
    obtain ⟨D1, hD1⟩ : ∃ D1, D1 = (D.write p b).1 := ⟨_, rfl⟩
    rw [← hk] at h0 hw ⊢
    rw [← hD1] at hw ⊢
    rw [errD_ne h0] at hw ⊢
    clear hr h hD1 c1 c2 c3 c4 c5 hk hq1
    go_enter Tryz.func49, Tryz.ntmps49
    go_wp2_with fail
    refine hw.mono ?_
    rintro e w1 ⟨rfl, haft⟩
    obtain ⟨L1, h1, k1, k2⟩ := H.out.aft haft
    obtain ⟨d0, d1, d2, d3, d4, d5⟩ := h1.c
    have f5 := h1.bx.f 5
    have h2 : TDX (w1.setCell ⟨tg, 5, none⟩ (errD k)) L1 tg g { t with dead := k } D1 z := h1.set (tset5 k) (h1.ok.dead k)
    rw [errD_ne h0] at h2
    obtain ⟨e0, e1, e2, e3, e4, e5⟩ := h2.c
    rw [errD_ne h0] at e5
    have f5' := h2.bx.f 5
    have hfin : AftT w L tg g { t with dead := k } D1 z (w1.setCell ⟨tg, 5, none⟩ (.iface 69 (.int .i64 k))) := ⟨L1, h2, k1, (k2.or).set (p := ⟨tg, 5, none⟩) (.inr rfl) _⟩
    have Hfin := Lib.hid hfin
    clear haft h1 k1 k2 h2 hfin d1 d2 d3 d4 e1 e2 e3 e4 hw
    go_wp2_with fail
    go_ret
    exact ⟨rfl, Hfin.out⟩
end
end Go.Proofs.YtlecglmiigdjlaaGreatDoor
