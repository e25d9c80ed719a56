/- The disk's Write, Sync, Read, Waits. -/
import Derived.Test.YtijgkejknijplaaDoorSettle
namespace Go.Proofs.YtijgkejknijplaaDoor
open Go.RowKit
set_option maxRecDepth 100000
set_option linter.unusedVariables false
set_option linter.unusedSimpArgs false
theorem wr_elem : Elem Tryd.prog 65 (.agg #[.int .i64 0, .slice none 0 0]) 2 32 := by unfold Elem; kernel_rfl
theorem Rd.wlit (w : World) {cs : Array Value} (t : TypeId) {fr : Nat × Nat} (hk : cs.size = 2) : Rd (w.alloc (.cells cs t fr)) T 2 (some ⟨w.heap.size, 0, none⟩) 1 cs.toList :=
  ⟨by simp [hk], fun _ => ⟨_, rfl, trivial, fun j u hu => World.news_of_block (heap_alloc_new w _) j u hu⟩⟩
def WritePost (W : World) (L : Nat → Prop) (g : Nat) (D : Dk) (z : Nat) (p : Int) (b : List UInt8) (e : Ending) (w' : World) : Prop := e = .returned (errD (D.write p b).2) ∧ Aft W L g (D.write p b).1 z w'
section
variable {L : Nat → Prop} {g : Nat} {D : Dk} {z s o cS cO : Nat} {Q : Option Addr} {nq cQ : Nat} {qs : List Wq}
theorem errD_nil : errD 0 = .nilIface := rfl
theorem errD_ne {k : Int} (h : k ≠ 0) : errD k = .iface 58 (.int .i64 k) := by unfold errD; rw [if_neg h]
/-- Where the bytes do not fit, or the power is gone. -/
theorem write_no (p : Int) (A : Option Addr) (n c : Nat) (b : List UInt8) (hp : I64 p) (hn : (n : Int) ≤ 9223372036854775807) (hb : b.length = n) (w : World) (h : DS w L g D z s o cS cO Q nq cQ qs) (hk : D.Ok z) (h0 : D.withE p b.length ≠ 0) :
    Calls Tryd.prog 9 #[.pointer (some ⟨g, 0, none⟩), .int .i64 p, .slice A n c] w (WritePost w L g D z p b) := by
  have e0 : D.write p b = (D, D.withE p b.length) := by unfold Dk.write; rw [if_neg h0]
  unfold WritePost
  rw [e0]
  dsimp only
  have hw := within_any p n hp (by unfold I64; omega) w h
  rw [← hb] at hw
  have H := Lib.hid (h.x hk)
  rw [hb] at hw h0 ⊢
  rcases D.withE_or (p := p) (n := n) with e | e | e
  · exact absurd e h0
  · rw [e] at hw ⊢
    clear h h0 e e0
    go_enter Tryd.func9, Tryd.ntmps9
    go_wp2_with fail
    refine hw.mono ?_
    rintro e w' ⟨rfl, hbe⟩
    rw [errD_ne (by decide)]
    go_wp2_with fail
    go_ret
    exact ⟨rfl, Aft.new H.out hbe⟩
  · rw [e] at hw ⊢
    clear h h0 e e0
    go_enter Tryd.func9, Tryd.ntmps9
    go_wp2_with fail
    refine hw.mono ?_
    rintro e w' ⟨rfl, hbe⟩
    rw [errD_ne (by decide)]
    go_wp2_with fail
    go_ret
    exact ⟨rfl, Aft.new H.out hbe⟩
set_option maxHeartbeats 3200000 in
theorem write_yes (p : Nat) (A : Option Addr) (n c : Nat) (b : List UInt8) (w : World) (h : DS w L g D z s o cS cO Q nq cQ qs) (hk : D.Ok z) (hr : Rd w (fun k => ¬ L k) 1 A n (bs b)) (hp : p + n ≤ z) (hoff : D.off = false) (hnq : nq ≤ 1000000) :
    Calls Tryd.prog 9 #[.pointer (some ⟨g, 0, none⟩), .int .i64 p, .slice A n c] w (fun e w' => e = .returned (errD D.stepE) ∧ Aft w L g (D.put p b).stepped z w') := by
  have hbn := hr.blen
  have hw := within_any p n (by unfold I64; have := h.z2; omega) (by unfold I64; have := h.z2; omega) w h
  have e0 : D.withE p n = 0 := by rw [Dk.withE_iff hk]; exact ⟨⟨by omega, by omega, by omega⟩, hoff⟩
  rw [e0] at hw
  have hz2 := h.z2
  have H := Lib.hid h
  have Hr := Lib.hid hr
  clear h hr
  go_enter Tryd.func9, Tryd.ntmps9
  go_wp2_with fail
  refine hw.mono ?_
  rintro e w1 ⟨rfl, hb1⟩
  rw [errD_nil]
  have h1 := H.out.below hb1
  obtain ⟨-, -, k2, -, -⟩ := h1.c
  have r1 := Hr.out.below hb1
  have H1 := Lib.hid h1
  have R1 := Lib.hid r1
  have Hb1 := Lib.hid hb1
  clear h1 r1 hb1
  have f2 : w1.frozen? ⟨g, 2, none⟩ = false := H1.out.bx.f 2
  have k2d : w1.drew.cell? ⟨g, 2, none⟩ = some (.slice Q nq cQ) := k2
  have hclone := clone_any A n c (bs b) w1.drew R1.out.drew (bs_one b) (by omega)
  have Hc := Lib.hid hclone
  clear hclone
  go_upto_region 4 with (fail)
  go_cut [] (fun W => ∃ L' Q' nq' cQ' qs', DS W L' g { D with q := D.q ++ [(p, b)] } z s o cS cO Q' nq' cQ' qs' ∧ (∀ k, L' k → L k ∨ w.heap.size ≤ k) ∧ Kept L w W)
  case first =>
    have hszd : w1.drew.heap.size = w1.heap.size := rfl
    go_region_law (first
      | (rw [if_pos (by rfl)]; go_simp; go_at_call 27; refine Hc.out.mono ?_; rintro e w3 ⟨A3, c3, rfl, hown3, hb5⟩; have v2' : w3.cell? ⟨g, 2, none⟩ = some (.slice Q nq cQ) := (H1.out.bx.drew.below hb5).c 2; have v2a : ∀ ob, (w3.alloc ob).cell? ⟨g, 2, none⟩ = some (.slice Q nq cQ) := fun ob => ((H1.out.bx.drew.below hb5).alloc ob).c 2)
      | (refine step_append_any (news := [.int .i64 (p : Int), .slice A3 n c3]) _ Tryd.underlying59 wr_elem rfl (by omega) rfl rfl rfl ((own_below H1.out.drew.que hb5).alloc _) rfl (Rd.wlit _ _ rfl) (by intro u hu; simp only [List.mem_cons, List.not_mem_nil, or_false] at hu; rcases hu with rfl | rfl <;> rfl) (by omega) (Nat.zero_le _) rfl rfl ?_; intro A4 c4 w4 hown4 hg4 hat4; have hx4 := (((H1.out.bx.drew.below hb5).alloc _).grown hg4 H1.out.gq); have m1 := hx4.c 2; have m2 := hx4.f 2))
    all_goals
      go_wp2_with fail
      go_meet
      case rel =>
        have h3 := (H1.out.drew.below hb5).alloc (.cells #[.int .i64 (p : Int), .slice A3 n c3] 65)
        have hl1 := H1.out.lt
        have hz5 := hb5.size
        have hA3 := own_lt hown3
        have hz1 := Hb1.out.size
        refine ⟨_, _, _, _, _, h3.push (hown3.alloc _) (fun k hk' hL => by have := (hA3 k hk').1; have := hl1 k hL; rw [hszd] at *; omega) rfl hown4 hg4 hat4, ?_, ?_⟩
        · intro k hk'
          rcases hk' with h7 | h7 | h7
          · exact .inl h7
          · have := (hA3 k h7).1
            exact .inr (by rw [hszd] at this; omega)
          · rcases hat4 with h8 | h8
            · exact .inl (H1.out.lq k (by rw [← h8]; exact h7))
            · rw [h8] at h7
              injection h7 with h7
              exact .inr (by rw [hszd] at hz5; simp at h7; omega)
        · have q1 : Kept L w w3 := (Kept.of_new Hb1.out).trans (V := L) (Kept.of_new (Below.trans (Below.refl _ _).drew hb5)) fun _ _ h => h
          exact ((q1.alloc _).grown hg4 fun k hk' => H1.out.lq k hk').set H1.out.lg _
  case rest =>
    obtain ⟨L', Q', nq', cQ', qs', h2, hl2, hkp⟩ := hcut
    obtain ⟨-, c1, -, -, -⟩ := h2.c
    have hzc := h2.zc
    have hr2 : Rd wc T 1 A n (bs b) := by
      have r := (Hr.out.lt (by omega)).keep (w' := wc) fun k hk' hlt => hkp.block k hlt hk'.1
      exact r.any
    have hnl : p ≤ z := by omega
    have hpcI : (p : Int) ≤ cO := by omega
    have hpzI : (p : Int) ≤ z := by omega
    have hp0 : (0 : Int) ≤ p := by omega
    obtain ⟨ad, had⟩ : ∃ ad, ad = (if cO = p then some (⟨o, 0, none⟩ : Addr) else (some (⟨o, 0, none⟩ : Addr)).map (·.add (p * 1))) := ⟨_, rfl⟩
    have hsl : ∀ W : World, (Instr.sliceAt 22 (.slice (some ⟨o, 0, none⟩) z cO) (some (.int .i64 (p : Int))) none none).run Tryd.prog W = .ok (.slice ad (z - p) (cO - p)) W := by
      intro W
      rw [had]
      exact run_slice_lo (P := Tryd.prog) 22 Tryd.underlying22 (by kernel_rfl) _ z cO W p hnl
    have hdp : 0 < (bs b).length → ad = some ⟨o, p, none⟩ := by
      intro h0
      rw [had, if_neg (by rw [bs_length] at h0; omega)]
      simp [Addr.add]
      omega
    have hstep : ∀ w4, w4.ownsRow 0 5 1 (.slice (some ⟨o, 0, none⟩) z cO) z (splice (bs D.now) p (bs b)) → Only o wc w4 → Calls Tryd.prog 28 #[.pointer (some ⟨g, 0, none⟩)] w4 (StepPost w4 L' g (D.put p b) z s o cS cO Q' nq' cQ' qs') := fun w4 ho hy => step_any w4 (h2.layN ho hy) (hk.put (by omega))
    have Hstep := Lib.hid hstep
    have H2 := Lib.hid h2
    have Hl2 := Lib.hid hl2
    have Hkp := Lib.hid hkp
    have Hr2 := Lib.hid hr2
    have Hdp := Lib.hid hdp
    have hbz : (bs b).length = n := by rw [bs_length]; exact hbn
    have Hbz := Lib.hid hbz
    clear had h2 hl2 hkp hr2 k2 f2 k2d hstep hdp hbz
    go_wp2_with (refine wpList_copy_into rfl _ _ _ _ rfl 5 Tryd.underlying22 (by kernel_rfl) _ _ _ _ _ _ rfl rfl o p z cO _ (bs b) H2.out.now Hr2.out Hdp.out (by omega) (by rw [Hbz.out]; exact hp) (bs_one _) ?_; intro w4 ho4 hy4)
    refine (Hstep.out _ ho4 hy4).mono ?_
    rintro e w5 ⟨rfl, h5, ho5⟩
    go_wp2_with fail
    go_ret
    refine ⟨rfl, L', h5.x (Dk.Ok.stepped (hk.put (by omega))), Hl2.out, ?_⟩
    have hk5 : Kept L' wc w5 := (hy4.kept H2.out.lo).trans (V := L') (ho5.kept H2.out.lg) fun _ _ h => h
    exact Hkp.out.next hk5 Hl2.out
end
theorem Dk.off_of {D : Dk} {z : Nat} (hk : D.Ok z) {p n : Int} (h : D.withE p n = 0) : D.off = false := ((Dk.withE_iff hk).1 h).2
/-- Write, at any place. -/
theorem write_any {L : Nat → Prop} {g : Nat} {D : Dk} {z : Nat} (p : Int) (A : Option Addr) (n c : Nat) (b : List UInt8) (w : World) (h : DX w L g D z) (hr : Rd w (fun k => ¬ L k) 1 A n (bs b)) (hp : I64 p) (hn : (n : Int) ≤ 9223372036854775807) (hnq : D.q.length ≤ 1000000) :
    Calls Tryd.prog 9 #[.pointer (some ⟨g, 0, none⟩), .int .i64 p, .slice A n c] w (WritePost w L g D z p b) := by
  obtain ⟨s, o, cS, cO, Q, nq, cQ, qs, h, hk⟩ := h
  have hbn := hr.blen
  by_cases h0 : D.withE p b.length = 0
  · have h1 := (Dk.withE_iff hk).1 h0
    obtain ⟨p', rfl⟩ := Int.eq_ofNat_of_zero_le h1.1.1
    refine (write_yes p' A n c b w h hk hr (by omega) h1.2 (by rw [← h.qlen]; exact hnq)).mono ?_
    rintro e w' ⟨rfl, ha⟩
    have e0 : D.write p' b = ((D.put p' b).stepped, D.stepE) := by
      unfold Dk.write
      rw [if_pos h0]
      rfl
    unfold WritePost
    rw [e0]
    exact ⟨rfl, ha⟩
  · exact write_no p A n c b hp hn hbn w h hk h0
def ReadPost (W : World) (b : List UInt8) (k : Int) (e : Ending) (w' : World) : Prop := ∃ A c, e = .returned (.tuple #[.slice A b.length c, errD k]) ∧ Rd w' (W.heap.size ≤ ·) 1 A b.length (bs b) ∧ Below W.heap.size W w'
theorem own_up {W : World} {B B' : Nat} {e : TypeId} {size n m c : Nat} {A : Option Addr} {xs : List Value} (ho : W.ownsRow B e size (.slice A n c) m xs) (hB : B' ≤ B) : W.ownsRow B' e size (.slice A n c) m xs := by
  refine ⟨ho.1, ?_⟩
  rcases ho.2 with h1 | ⟨g, cap, cur, h1, h2, h4⟩
  · exact .inl h1
  · exact .inr ⟨g, cap, cur, h1, Nat.le_trans hB h2, h4⟩
/-- The bytes that are read: a row of the caller's own. -/
def ReadOwn (W : World) (b : List UInt8) (k : Int) (e : Ending) (w' : World) : Prop := ∃ A c, e = .returned (.tuple #[.slice A b.length c, errD k]) ∧ w'.ownsRow W.heap.size 5 1 (.slice A b.length c) b.length (bs b) ∧ Below W.heap.size W w'
set_option maxHeartbeats 1600000 in
theorem read_own {L : Nat → Prop} {g : Nat} {D : Dk} {z : Nat} (p n : Int) (w : World) (h : DX w L g D z) (hp : I64 p) (hn : I64 n) :
    Calls Tryd.prog 21 #[.pointer (some ⟨g, 0, none⟩), .int .i64 p, .int .i64 n] w (ReadOwn w (D.read p n).1 (D.read p n).2) := by
  obtain ⟨s, o, cS, cO, Q, nq, cQ, qs, h, hk⟩ := h
  have hw := within_any p n hp hn w h
  unfold Dk.read
  by_cases h0 : D.withE p n = 0
  · rw [if_pos h0]
    dsimp only
    have h1 := (Dk.withE_iff hk).1 h0
    obtain ⟨p', rfl⟩ := Int.eq_ofNat_of_zero_le h1.1.1
    obtain ⟨n', rfl⟩ := Int.eq_ofNat_of_zero_le h1.1.2.1
    rw [h0] at hw
    simp only [Int.toNat_natCast]
    have hl : ((D.now.drop p').take n').length = n' := by
      have := h.nlen
      simp
      omega
    have hl' : (bs ((D.now.drop p').take n')).length = n' := by rw [bs_length]; exact hl
    obtain ⟨l, hle⟩ : ∃ l, l = (D.now.drop p').take n' := ⟨_, rfl⟩
    rw [← hle] at hl hl' ⊢
    have H := Lib.hid h
    have Hle := Lib.hid hle
    have hz2 := h.z2
    have hzc := h.zc
    have Hl := Lib.hid hl
    clear h hle hl hl' h0
    have hpn : (p' : Int) ≤ ((p' + n' : Nat) : Int) := by omega
    unfold ReadOwn
    rw [Hl.out]
    go_enter Tryd.func21, Tryd.ntmps21
    go_wp2_with fail
    refine hw.mono ?_
    rintro e w1 ⟨rfl, hb1⟩
    rw [errD_nil]
    have h1 := H.out.below hb1
    obtain ⟨-, c1, -, -, -⟩ := h1.c
    have hrun := run_slice_lohi (P := Tryd.prog) 22 Tryd.underlying22 (size := 1) (by kernel_rfl) (some ⟨o, 0, none⟩) z cO
    obtain ⟨ad, had⟩ : ∃ ad, ad = (if cO = p' then some (⟨o, 0, none⟩ : Addr) else (some (⟨o, 0, none⟩ : Addr)).map (·.add (p' * 1))) := ⟨_, rfl⟩
    have hsl : ∀ W : World, (Instr.sliceAt 22 (.slice (some ⟨o, 0, none⟩) z cO) (some (.int .i64 (p' : Int))) (some (.int .i64 ((p' : Int) + n'))) none).run Tryd.prog W = .ok (.slice ad n' (cO - p')) W := by
      intro W
      have := hrun W p' (p' + n') (by omega) (by omega)
      rw [← had] at this
      rw [show ((p' : Int) + n') = ((p' + n' : Nat) : Int) by push_cast; rfl, this, show p' + n' - p' = n' by omega]
    have hrd := (Rd.of_own h1.now).bsub (i := p') (k := n') (m := cO) (by omega) (by omega)
    have e1 : (if cO = p' then some (⟨o, 0, none⟩ : Addr) else (some (⟨o, 0, none⟩ : Addr)).map (·.add p')) = ad := by rw [had, Nat.mul_one]
    rw [e1, ← Hle.out] at hrd
    have hcl := clone_any ad n' (cO - p') (bs l) w1 hrd (bs_one l) (by omega)
    have Hcl := Lib.hid hcl
    have Hb1 := Lib.hid hb1
    clear hcl hb1 hrd hrun had e1 h1
    go_wp2_with fail
    refine Hcl.out.mono ?_
    rintro e w2 ⟨A2, c2, rfl, hown2, hb2⟩
    go_wp2_with fail
    go_ret2
    exact ⟨A2, c2, rfl, own_up hown2 Hb1.out.size, Hb1.out.trans (hb2.mono Hb1.out.size)⟩
  · rw [if_neg h0]
    dsimp only
    have e1 : errD (D.withE p n) = .iface 58 (.int .i64 (D.withE p n)) := errD_ne h0
    have H := Lib.hid h
    unfold ReadOwn
    generalize D.withE p n = k at hw h0 e1 ⊢
    rw [e1]
    clear h
    unfold ErrPost at hw
    rw [e1] at hw
    go_enter Tryd.func21, Tryd.ntmps21
    go_wp2_with fail
    refine hw.mono ?_
    rintro e w1 ⟨rfl, hb1⟩
    go_wp2_with fail
    go_ret2
    exact ⟨none, 0, rfl, own_nil _ _ _ _ _ rfl, hb1⟩
theorem read_any {L : Nat → Prop} {g : Nat} {D : Dk} {z : Nat} (p n : Int) (w : World) (h : DX w L g D z) (hp : I64 p) (hn : I64 n) :
    Calls Tryd.prog 21 #[.pointer (some ⟨g, 0, none⟩), .int .i64 p, .int .i64 n] w (ReadPost w (D.read p n).1 (D.read p n).2) := by
  refine (read_own p n w h hp hn).mono ?_
  rintro e w' ⟨A, c, rfl, h1, h2⟩
  exact ⟨A, c, rfl, Rd.of_own h1, h2⟩
def SyncPost (W : World) (L : Nat → Prop) (g : Nat) (D : Dk) (z : Nat) (e : Ending) (w' : World) : Prop := e = .returned (errD D.sync.2) ∧ Aft W L g D.sync.1 z w'
theorem sync_any {L : Nat → Prop} {g : Nat} {D : Dk} {z : Nat} (w : World) (h : DX w L g D z) (hnq : D.q.length ≤ 1000000) :
    Calls Tryd.prog 10 #[.pointer (some ⟨g, 0, none⟩)] w (SyncPost w L g D z) := by
  obtain ⟨s, o, cS, cO, Q, nq, cQ, qs, h, hk⟩ := h
  have hw := within_any 0 0 (by unfold I64; omega) (by unfold I64; omega) w h
  have H := Lib.hid h
  unfold SyncPost Dk.sync
  by_cases h0 : D.withE 0 0 = 0
  · rw [if_pos h0]
    rw [h0] at hw
    have hst : ∀ w1, Below w.heap.size w w1 → Calls Tryd.prog 28 #[.pointer (some ⟨g, 0, none⟩)] w1 (StepPost w1 L g D z s o cS cO Q nq cQ qs) := fun w1 hb => step_any w1 (H.out.below hb) hk
    by_cases h1 : D.armed = 1
    · rw [if_pos h1]
      dsimp only
      have e1 : D.stepE = 13 := by unfold Dk.stepE; rw [if_pos h1]
      unfold StepPost at hst
      rw [e1, errD_ne (by decide)] at hst
      rw [errD_ne (by decide)]
      clear h h0
      go_enter Tryd.func10, Tryd.ntmps10
      go_wp2_with fail
      refine hw.mono ?_
      rintro e w1 ⟨rfl, hb1⟩
      rw [errD_nil]
      go_wp2_with fail
      refine (hst w1 hb1).mono ?_
      rintro e w2 ⟨rfl, h2, ho2⟩
      go_wp2_with fail
      go_ret
      exact ⟨rfl, L, h2.x hk.stepped, fun b hb => .inl hb, (Kept.of_new hb1).trans (V := L) (ho2.kept h2.lg) fun _ _ h => h⟩
    · rw [if_neg h1]
      dsimp only
      have e1 : D.stepE = 0 := by unfold Dk.stepE; rw [if_neg h1]
      have q1 : D.stepped.q = D.q := by unfold Dk.stepped; split <;> rfl
      unfold StepPost at hst
      rw [e1, errD_nil] at hst
      rw [errD_nil]
      have hset : ∀ w2, DS w2 L g D.stepped z s o cS cO Q nq cQ qs → Calls Tryd.prog 29 #[.pointer (some ⟨g, 0, none⟩)] w2 (SetPost w2 L g D.stepped z) := fun w2 h2 => settle_any w2 h2 (by rw [q1]; exact hk.fit) (by rw [← h.qlen]; exact hnq)
      have Hset := Lib.hid hset
      clear h h0 hset
      go_enter Tryd.func10, Tryd.ntmps10
      go_wp2_with fail
      refine hw.mono ?_
      rintro e w1 ⟨rfl, hb1⟩
      rw [errD_nil]
      go_wp2_with fail
      refine (hst w1 hb1).mono ?_
      rintro e w2 ⟨rfl, h2, ho2⟩
      go_wp2_with fail
      refine (Hset.out w2 h2).mono ?_
      rintro e w3 ⟨rfl, ⟨_, _, _, _, _, _, _, _, h3⟩, hk3⟩
      go_wp2_with fail
      go_ret
      exact ⟨rfl, L, h3.x hk.stepped.settled, fun b hb => .inl hb, ((Kept.of_new hb1).trans (V := L) (ho2.kept h2.lg) fun _ _ h => h).trans (V := L) hk3 fun _ _ h => h⟩
  · rw [if_neg h0]
    dsimp only
    have e1 : errD (D.withE 0 0) = .iface 58 (.int .i64 (D.withE 0 0)) := errD_ne h0
    have hx := h.x hk
    generalize D.withE 0 0 = k at hw h0 e1 ⊢
    rw [e1]
    clear h
    unfold ErrPost at hw
    rw [e1] at hw
    go_enter Tryd.func10, Tryd.ntmps10
    go_wp2_with fail
    refine hw.mono ?_
    rintro e w1 ⟨rfl, hb1⟩
    go_wp2_with fail
    go_ret
    exact ⟨rfl, Aft.new hx hb1⟩
end Go.Proofs.YtijgkejknijplaaDoor
