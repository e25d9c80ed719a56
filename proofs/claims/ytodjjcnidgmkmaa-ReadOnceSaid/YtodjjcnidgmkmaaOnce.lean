/- Walk of tollbarlaw14.ReadOnce. -/
import Derived.Test.YtodjjcnidgmkmaaOnceW
namespace Go.Proofs.Ytodjjcnidgmkmaa
open Go.RowKit
set_option linter.unusedVariables false
set_option linter.unusedSimpArgs false
set_option maxRecDepth 100000 in
set_option maxHeartbeats 6400000 in
theorem once_walk (AL : Option Addr) (nL cL : Nat) (l : List It) (AF : Option Addr) (nF cF : Nat) (f : List Tr) (w : World) (hl : Rd w (· < w.heap.size) 4 AL nL (flat itc l)) (hf : Rd w (· < w.heap.size) 3 AF nF (flat trc f)) (mL : nL ≤ 9223372036854775807) (mF : nF ≤ 9223372036854775807) :
    Calls Try.prog 4 #[.slice AL nL cL, .slice AF nF cF] w (YesPost w) := by
  have hinv : OInv w [] 0 0 none 0 0 (w.alloc (.cells #[.int .i64 50, .slice none 0 0] 30)) := ⟨Bx.new w _ _ rfl, Rd.none_, by decide, rfl, (Below.refl _ _).alloc (Nat.le_refl _) _⟩
  go_enter Try.func4, Try.ntmps4
  go_wp2_with fail
  go_loopg [6, 7, 8, 9, 10, 11, 12, 13, 14, 15, 16, 17, 18] 41 (fun m s6 s7 s8 s9 s10 s11 s12 s13 s14 s15 s16 s17 s18 wr => ∃ (i N M nq cq : Nat) (Aq : Option Addr) (ql : List It), m = 41 - i ∧ i ≤ 40 ∧ N ≤ i ∧ s8 = .int .i64 (i : Nat) ∧ s6 = .int .i64 (N : Nat) ∧ s7 = .int .i64 (M : Nat) ∧ OInv w ql N M Aq nq cq wr)
  case atStart => exact ⟨0, 0, 0, 0, 0, none, [], by omega, by omega, by omega, rfl, rfl, rfl, hinv⟩
  case round =>
    obtain ⟨i, N, M, nq, cq, Aq, ql, hm, hi, hN, rfl, rfl, rfl, hv⟩ := hrel
    clear hinv
    have Hm := Lib.hid hm
    clear hm
    by_cases hin : i < nL ∧ i < 40
    · obtain ⟨hin, hi40⟩ := hin
      obtain ⟨b, o, x, rfl, hbl, _, hx, hd0, hd1, hd2, hd3⟩ := it_cells (hl.below (hv.be.mono (Nat.le_refl _))) hin
      clear hx
      have hinI : (i : Int) < nL := by omega
      have hi40I : (i : Int) < 40 := by omega
      have h0i : (0 : Int) ≤ i := by omega
      have z1 := hv.be.size
      have hlen := hv.len
      obtain ⟨hl1, hl2, hl3⟩ := hlen
      have Hl1 := Lib.hid hl1
      have Hl3 := Lib.hid hl3
      have hql : ql.length ≤ 50 := by omega
      have hNle : N ≤ 40 := by omega
      have hMle : M ≤ 40 := by omega
      have k0 : wr.cell? ⟨w.heap.size, 0, none⟩ = some (.int .i64 50) := hv.bx.c 0
      have k1 : wr.cell? ⟨w.heap.size, 1, none⟩ = some (.slice Aq nq cq) := hv.bx.c 1
      have k2 : ∀ ob, (wr.alloc ob).cell? ⟨w.heap.size, 0, none⟩ = some (.int .i64 50) := fun ob => (hv.bx.alloc ob).c 0
      have k3 : ∀ ob, (wr.alloc ob).cell? ⟨w.heap.size, 1, none⟩ = some (.slice Aq nq cq) := fun ob => (hv.bx.alloc ob).c 1
      have hvA := fun ob => hv.below ((Below.refl _ _).alloc (Nat.le_refl _) ob)
      have HvA := Lib.hid hvA
      have Hv := Lib.hid hv
      clear hl1 hl3 hvA
      -- Add
      obtain ⟨x', hx'⟩ : ∃ x' : It, x' = ⟨x.t, x.r, x.i, (N : Int)⟩ := ⟨_, rfl⟩
      have hadd : ∃ lim' l' er, (∀ W (Aq : Option Addr) (nq cq : Nat), Rd W (w.heap.size + 1 ≤ ·) 4 Aq nq (flat itc ql) → Calls Try.prog 9 #[quA 50 Aq nq cq, itA x'] W (AddPost W lim' l' er)) ∧ ((lim' = 0 ∧ l' = [] ∧ ∃ K, er = .iface 53 (.int .i64 K)) ∨ (lim' = 50 ∧ l' = ql ++ [x'] ∧ er = .nilIface ∧ quMay 50 (ql ++ [x']) = true)) := by
        have hqn : ∀ W (Aq : Option Addr) (nq : Nat), Rd W (w.heap.size + 1 ≤ ·) 4 Aq nq (flat itc ql) → ql.length = nq := fun W Aq nq h => h.flen itc_len (by omega)
        rcases Bool.eq_false_or_eq_true (itMay x') with h1 | h1
        · by_cases h2 : (50 : Int) ≤ (ql.length : Int)
          · exact ⟨0, [], _, fun W Aq nq cq hr => add_bad 50 Aq nq cq ql x' W hr (by have := hqn W Aq nq hr; omega) 32 (.inr (.inr ⟨Hv.out.may, h1, by have := hqn W Aq nq hr; omega, rfl⟩)), .inl ⟨rfl, rfl, _, rfl⟩⟩
          · exact ⟨50, _, _, fun W Aq nq cq hr => add_good 50 Aq nq cq ql x' W hr (by have := hqn W Aq nq hr; omega) Hv.out.may h1 (by have := hqn W Aq nq hr; omega), .inr ⟨rfl, rfl, rfl, quMay_snoc Hv.out.may h1 (by omega)⟩⟩
        · exact ⟨0, [], _, fun W Aq nq cq hr => add_bad 50 Aq nq cq ql x' W hr (by have := hqn W Aq nq hr; omega) 1 (.inr (.inl ⟨Hv.out.may, h1, rfl⟩)), .inl ⟨rfl, rfl, _, rfl⟩⟩
      obtain ⟨lim', l', er, hadd1, hadd2⟩ := hadd
      have hzz : ∃ z : Bool, (∀ W, (eqGuard .eql 42 (.tmp 42) (.const .nilIface) er .nilIface).run Try.prog W = .ok () W) ∧ (∀ W, (binOp .eql 42 er .nilIface).run Try.prog W = .ok (.bool z) W) ∧ ((z = false ∧ lim' = 0) ∨ (z = true ∧ lim' = 50 ∧ l' = ql ++ [x'] ∧ quMay 50 (ql ++ [x']) = true)) := by
        rcases hadd2 with ⟨h1, h2, K, rfl⟩ | ⟨h1, h2, rfl, h3⟩
        · exact ⟨false, fun W => by kernel_rfl, fun W => by kernel_rfl, .inl ⟨rfl, h1⟩⟩
        · exact ⟨true, fun W => by kernel_rfl, fun W => by kernel_rfl, .inr ⟨rfl, h1, h2, h3⟩⟩
      obtain ⟨z, hE1, hE2, hadd2⟩ := hzz
      have Hadd1 := Lib.hid hadd1
      have Hadd2 := Lib.hid hadd2
      clear hadd1 hadd2
      rw [hx'] at Hadd1
      have Hx' := Lib.hid hx'
      clear hx'
      unfold quA itA at Hadd1
      dsimp only at Hadd1
      go_wp2_with fail
      refine (Hadd1.out _ Aq nq cq (Hv.out.rd.alloc _)).mono ?_
      rintro e w1 ⟨A1, n1, c1, rfl, r1, hb1⟩
      unfold quA
      have hv1 := (HvA.out _).below hb1
      have hsz1 : w.heap.size + 1 ≤ w1.heap.size := hv1.bx.lt
      have r1' : Rd w1 (w.heap.size + 1 ≤ ·) 4 A1 n1 (flat itc l') := r1.mono (fun b hb => by simp at hb; omega)
      clear r1 k2 k3 hd0 hd1 hd2 hd3 k0 k1
      clear Hv HvA hb1
      have X10 := Bx.new w1 #[.int .i64 lim', .slice A1 n1 c1] 30 rfl
      have hv2 := hv1.below ((Below.refl _ _).alloc (Nat.le_refl _) (.cells #[.int .i64 lim', .slice A1 n1 c1] 30))
      obtain ⟨t0, t1, tf0, tf1⟩ := hv2.bx.c2
      obtain ⟨u0, u1, -, -⟩ := X10.c2
      have r2 := r1'.alloc (.cells #[.int .i64 lim', .slice A1 n1 c1] 30)
      have Hv2 := Lib.hid hv2
      clear hv1 hv2 r1' X10
      go_upto_if 43 with (fail)
      go_cut [6] (fun s6 W => ∃ (N' nq' cq' : Nat) (Aq' : Option Addr) (ql' : List It), s6 = .int .i64 (N' : Nat) ∧ N' ≤ i + 1 ∧ OInv w ql' N' M Aq' nq' cq' W)
      case first =>
        rcases Hadd2.out with ⟨rfl, rfl⟩ | ⟨rfl, rfl, hl', hmay⟩
        · go_wp2_with fail
          go_meet
          case rel => exact ⟨N, nq, cq, Aq, ql, rfl, by omega, Hv2.out⟩
        · have Hl' := Lib.hid hl'
          have Hmay := Lib.hid hmay
          clear hl' hmay
          go_wp2_with fail
          go_meet
          case rel =>
            have hr2 := r2
            rw [Hl'.out] at hr2
            have hll := hr2.flen itc_len (by omega)
            exact ⟨N + 1, n1, c1, A1, ql ++ [x'], by go_num, by omega, Hv2.out.put hr2 Hmay.out (by have := Hl3.out; have := Hl1.out; simp; omega)⟩
      case rest =>
        obtain ⟨N', nq', cq', Aq', ql', rfl, hN', hv3⟩ := hcut
        clear r2 u0 u1 t0 t1 tf0 tf1 Hv2 Hadd1 Hadd2 hE1 hE2 Hx' hsz1 z1
        have hlen3 := hv3.len
        obtain ⟨hl4, hl5, hl6⟩ := hlen3
        have Hl4 := Lib.hid hl4
        have Hl6 := Lib.hid hl6
        have hN40 : N' ≤ 41 := by omega
        clear hl4 hl6
        go_upto_if 50 with (fail)
        go_cut [7, 12, 13, 14, 15, 16, 17, 18] (fun s7 s12 s13 s14 s15 s16 s17 s18 W => ∃ (M' nq2 cq2 : Nat) (Aq2 : Option Addr) (ql2 : List It), s7 = .int .i64 (M' : Nat) ∧ OInv w ql2 N' M' Aq2 nq2 cq2 W)
        case first =>
          by_cases hif : i < nF
          · have hfb := hf.below (hv3.be.mono (Nat.le_refl _))
            obtain ⟨bf, of_, y, rfl, hbf, hbf2, hy, f0, f1, f2⟩ := tr_cells hfb hif
            clear hy hfb
            have hifI : (i : Int) < nF := by omega
            obtain ⟨V, hV⟩ : ∃ V, V = wc.alloc (.cells #[.int .i64 50, .slice Aq' nq' cq'] 30) := ⟨_, rfl⟩
            have X12 : Bx V wc.heap.size #[.int .i64 50, .slice Aq' nq' cq'] := by subst hV; exact Bx.new _ _ _ rfl
            have hvV : OInv w ql' N' M Aq' nq' cq' V := by subst hV; exact hv3.below ((Below.refl _ _).alloc (Nat.le_refl _) _)
            have rq := hvV.rd.lt (by omega)
            have g0 : V.cell? ⟨bf, of_ + i * 3, none⟩ = some (.int .i64 y.a) := by subst hV; exact (World.cell?_alloc_lt _ _ ⟨bf, _, none⟩ hbf2).trans f0
            have g1 : V.cell? ⟨bf, of_ + i * 3 + 1, none⟩ = some (.int .i64 y.b) := by subst hV; exact (World.cell?_alloc_lt _ _ ⟨bf, _, none⟩ hbf2).trans f1
            have g2 : V.cell? ⟨bf, of_ + i * 3 + 2, none⟩ = some (.int .i64 y.c) := by subst hV; exact (World.cell?_alloc_lt _ _ ⟨bf, _, none⟩ hbf2).trans f2
            have hbfV : bf < V.heap.size := by subst hV; simp; omega
            have k0 : wc.cell? ⟨w.heap.size, 0, none⟩ = some (.int .i64 50) := hv3.bx.c 0
            have k1 : wc.cell? ⟨w.heap.size, 1, none⟩ = some (.slice Aq' nq' cq') := hv3.bx.c 1
            have hzV : V.heap.size = wc.heap.size + 1 := by subst hV; simp
            have HV := Lib.hid hV
            have HzV := Lib.hid hzV
            have zc := hv3.bx.lt
            clear hV f0 f1 f2 hv3 hzV
            go_upto_region 14 with (fail)
            rw [← HV.out]
            clear k0 k1
            generalize hg12 : wc.heap.size = g12 at X12 HzV zc ⊢
            clear hg12
            have sof : ∀ W, Below V.heap.size V W → (Below V.heap.size V W ∧ W.cell? ⟨w.heap.size, 0, none⟩ = some (.int .i64 50) ∧ W.cell? ⟨w.heap.size, 1, none⟩ = some (.slice Aq' nq' cq') ∧ W.cell? ⟨bf, of_ + i * 3, none⟩ = some (.int .i64 y.a) ∧ W.cell? ⟨bf, of_ + i * 3 + 1, none⟩ = some (.int .i64 y.b) ∧ W.cell? ⟨bf, of_ + i * 3 + 2, none⟩ = some (.int .i64 y.c)) := fun W hb => ⟨hb, (hvV.bx.below hb).c 0, (hvV.bx.below hb).c 1, (hb.cell (p := ⟨bf, _, none⟩) hbfV).trans g0, (hb.cell (p := ⟨bf, _, none⟩) hbfV).trans g1, (hb.cell (p := ⟨bf, _, none⟩) hbfV).trans g2⟩
            go_cut [13, 14] (fun s13 s14 W => ∃ (g n2 c2 m d : Nat) (A2 B : Option Addr), s13 = .pointer (some ⟨g, 0, none⟩) ∧ s14 = .slice B m d ∧ V.heap.size ≤ g ∧ Bx W g #[.int .i64 50, .slice A2 n2 c2] ∧ Rd W T 4 A2 n2 (flat itc (leftOf (isTake y.a y.b y.c) ql')) ∧ Rd W T 1 B m (ii (outOf (isTake y.a y.b y.c) ql')) ∧ Below V.heap.size V W)
            case first =>
              go_region_held3 (fun W => Below V.heap.size V W ∧ W.cell? ⟨w.heap.size, 0, none⟩ = some (.int .i64 50) ∧ W.cell? ⟨w.heap.size, 1, none⟩ = some (.slice Aq' nq' cq') ∧ W.cell? ⟨bf, of_ + i * 3, none⟩ = some (.int .i64 y.a) ∧ W.cell? ⟨bf, of_ + i * 3 + 1, none⟩ = some (.int .i64 y.b) ∧ W.cell? ⟨bf, of_ + i * 3 + 2, none⟩ = some (.int .i64 y.c)) ((refine sof _ ?_; first | exact (Below.refl _ _).drew | (go_split_ands; exact Below.trans (by assumption) (Below.mono (by assumption) (Below.size (by assumption)))) | (go_split_ands; exact Below.alloc (by assumption) (Below.size (by assumption)) _) | (go_split_ands; exact below_realloc (by assumption) z2b z2b _) | (go_split_ands; refine Below.setCell ?_ (by first | exact Nat.le_refl _ | exact z2b) _; refine Below.setCell ?_ (by first | exact Nat.le_refl _ | exact z2b) _; assumption))) (first | (go_at_call 7; refine (take_good 50 Aq' nq' cq' ql' y.a y.b y.c _ (rq.below (by go_split_ands; assumption)) (by omega) 50 _ _ (.inl ⟨hvV.may, rfl, rfl, rfl⟩)).mono ?_; rintro e w2 ⟨A2, n2, c2, B2, m2, d2, rfl, r2, r3, hb2⟩; unfold quA; have z2b : V.heap.size ≤ w2.heap.size := Nat.le_trans (Below.size (by go_split_ands; assumption)) hb2.size; first | (have X8 := (Bx.new V #[.int .i64 0, .slice none 0 0] 30 rfl).drew.below hb2; obtain ⟨x8, x9, x8f, x9f⟩ := X8.c2) | (have hcc : Below V.drew.heap.size V.drew w2 := hb2)))
              all_goals
                go_wp2_with fail
                go_meet
                case rel =>
                  first
                    | exact ⟨w2.heap.size, n2, c2, m2, d2, A2, B2, rfl, rfl, z2b, Bx.new _ _ _ rfl, r2.any.alloc _, r3.any.alloc _, by go_split_ands; assumption⟩
                    | (refine ⟨V.heap.size, n2, c2, m2, d2, A2, B2, rfl, rfl, Nat.le_refl _, (X8.set 0 _).set 1 _, ?_, ?_, by go_split_ands; assumption⟩
                       · refine ((r2.setCell ?_ _).setCell ?_ _).any
                         · show ¬ _ ≤ V.heap.size; simp
                         · show ¬ _ ≤ V.heap.size; simp
                       · refine ((r3.setCell ?_ _).setCell ?_ _).any
                         · show ¬ _ ≤ V.heap.size; simp
                         · show ¬ _ ≤ V.heap.size; simp)
            case rest =>
              obtain ⟨g, n2, c2, m, d, A2, B, rfl, rfl, hg, X13, r2, r3, hbc⟩ := hcut
              have hvc := hvV.below hbc
              have rqc := rq.below hbc
              have X12c := X12.below hbc
              have c0 := (hbc.cell (p := ⟨bf, of_ + i * 3, none⟩) hbfV).trans g0
              have c1 := (hbc.cell (p := ⟨bf, of_ + i * 3 + 1, none⟩) hbfV).trans g1
              have c2' := (hbc.cell (p := ⟨bf, of_ + i * 3 + 2, none⟩) hbfV).trans g2
              have hbfc : bf < wc.heap.size := Nat.lt_of_lt_of_le hbfV hbc.size
              have hzV := HzV.out
              have hmay := hvV.may
              have hsz := hbc.size
              have hmlen := ii_len r3
              have Hmlen := Lib.hid hmlen
              have hmle : m ≤ 50 := by have := left_out_length (isTake y.a y.b y.c) ql'; have := Hl4.out; omega
              have hvc' := Lib.hid hvc
              clear sof g0 g1 g2 X12 rq hvV hbc HV HzV hmlen hvc
              go_wp2_with fail
              go_loopg [15, 16, 17] m (fun q s15 s16 s17 wr => ∃ kk : Nat, q = m - kk ∧ kk ≤ m ∧ s15 = .int .i64 kk ∧ Below wc.heap.size wc wr)
              case atStart => exact ⟨0, by omega, by omega, rfl, Below.refl _ _⟩
              case round =>
                obtain ⟨kk, hkm, hkk, rfl, hb⟩ := hrel
                have Hkm := Lib.hid hkm
                clear hkm
                by_cases hlt : kk < m
                · obtain ⟨bz, oz, z, hB, lz1, lz2, hz, hzc⟩ := ii_cell (r3.below hb) hlt
                  have hok := okB_of_out (List.mem_of_getElem? hz)
                  have Hok := Lib.hid hok
                  have hkI : (kk : Int) < m := by omega
                  have h0k : (0 : Int) ≤ kk := by omega
                  subst hB
                  clear hz hok lz1
                  obtain ⟨wo, rfl⟩ : ∃ wo, wo = wr := ⟨_, rfl⟩
                  go_wp2_with fail
                  go_loopg [16, 17] nq' (fun q s16 s17 wr => ∃ jj : Nat, q = nq' - jj ∧ jj ≤ nq' ∧ s17 = .int .i64 jj ∧ s16 = .bool (okB z y.b y.c (ql'.take jj)) ∧ Below wo.heap.size wo wr)
                  case atStart => exact ⟨0, by omega, by omega, rfl, rfl, Below.refl _ _⟩
                  case round =>
                    obtain ⟨jj, hjm, hjj, rfl, rfl, hb2⟩ := hrel
                    have Hjm := Lib.hid hjm
                    clear hjm
                    have hbw := hb.trans (hb2.mono hb.size)
                    have e12 : wr.cell? ⟨g12, 1, none⟩ = some (.slice Aq' nq' cq') := (X12c.below hbw).c 1
                    by_cases hlt2 : jj < nq'
                    · obtain ⟨bi, oi, it, hA, li1, li2, hit, hi0, hi1, hi2, hi3⟩ := it_cells (rqc.below hbw) hlt2
                      have hsn := okB_snoc z y.b y.c (ql'.take jj) it
                      have hs : ql'.take (jj + 1) = ql'.take jj ++ [it] := by rw [List.take_add_one, hit]; rfl
                      rw [← hs] at hsn
                      have z2 := (hb2.cell (p := ⟨bz, oz + kk, none⟩) lz2).trans hzc
                      have d0 := (hbw.cell (p := ⟨bf, of_ + i * 3 + 1, none⟩) hbfc).trans c1
                      have d1 := (hbw.cell (p := ⟨bf, of_ + i * 3 + 2, none⟩) hbfc).trans c2'
                      have hjI : (jj : Int) < nq' := by omega
                      have h0j : (0 : Int) ≤ jj := by omega
                      subst hA
                      clear hit hs li1
                      generalize okB z y.b y.c (ql'.take jj) = prev at hsn
                      cases prev
                      · rcases Bool.eq_false_or_eq_true (it.k == z) with q1 | q1
                        · by_cases q2 : it.r ≤ y.b
                          · by_cases q3 : it.i ≤ y.c
                            · have hsn' : okB z y.b y.c (ql'.take (jj + 1)) = true := by rw [hsn, q1, decide_eq_true q2, decide_eq_true q3]; rfl
                              have Hsn := Lib.hid hsn'
                              clear hsn hsn'
                              go_wp2_with fail
                              go_quiet (fail)
                              go_wp2_with fail
                              go_roundg (nq' - (jj + 1))
                              case measure => have := Hjm.out; omega
                              case rel => exact ⟨jj + 1, rfl, by omega, by go_num, by rw [Hsn.out], by first | exact below_drewN hb2 _ | exact hb2.drew⟩
                            · have hsn' : okB z y.b y.c (ql'.take (jj + 1)) = false := by rw [hsn, q1, decide_eq_true q2, decide_eq_false q3]; rfl
                              have w3 : decide (it.i ≤ y.c) = false := decide_eq_false q3
                              have Hsn := Lib.hid hsn'
                              clear hsn hsn'
                              go_wp2_with fail
                              go_quiet (fail)
                              go_wp2_with fail
                              go_roundg (nq' - (jj + 1))
                              case measure => have := Hjm.out; omega
                              case rel => exact ⟨jj + 1, rfl, by omega, by go_num, by rw [Hsn.out], by first | exact below_drewN hb2 _ | exact hb2.drew⟩
                          · have hsn' : okB z y.b y.c (ql'.take (jj + 1)) = false := by rw [hsn, q1, decide_eq_false q2]; rfl
                            have w2 : decide (it.r ≤ y.b) = false := decide_eq_false q2
                            have Hsn := Lib.hid hsn'
                            clear hsn hsn'
                            go_wp2_with fail
                            go_quiet (fail)
                            go_wp2_with fail
                            go_roundg (nq' - (jj + 1))
                            case measure => have := Hjm.out; omega
                            case rel => exact ⟨jj + 1, rfl, by omega, by go_num, by rw [Hsn.out], by first | exact below_drewN hb2 _ | exact hb2.drew⟩
                        · have hsn' : okB z y.b y.c (ql'.take (jj + 1)) = false := by rw [hsn, q1]; rfl
                          have Hsn := Lib.hid hsn'
                          clear hsn hsn'
                          go_wp2_with fail
                          go_quiet (fail)
                          go_wp2_with fail
                          go_roundg (nq' - (jj + 1))
                          case measure => have := Hjm.out; omega
                          case rel => exact ⟨jj + 1, rfl, by omega, by go_num, by rw [Hsn.out], by first | exact below_drewN hb2 _ | exact hb2.drew⟩
                      · have hsn' : okB z y.b y.c (ql'.take (jj + 1)) = true := by rw [hsn]; rfl
                        have Hsn := Lib.hid hsn'
                        clear hsn hsn'
                        go_wp2_with fail
                        go_quiet (fail)
                        go_wp2_with fail
                        go_roundg (nq' - (jj + 1))
                        case measure => have := Hjm.out; omega
                        case rel => exact ⟨jj + 1, rfl, by omega, by go_num, by rw [Hsn.out], by first | exact below_drewN hb2 _ | exact hb2.drew⟩
                    · obtain rfl : jj = nq' := by omega
                      rw [List.take_of_length_le (Nat.le_of_eq Hl4.out), Hok.out]
                      go_wp2_with fail
                      go_roundg (m - (kk + 1))
                      case measure => have := Hkm.out; omega
                      case rel => exact ⟨kk + 1, rfl, by omega, by go_num, hbw⟩
                · obtain rfl : kk = m := by omega
                  have hvw := hvc'.out.below hb
                  have X13w := X13.below hb
                  have hb' := hb
                  have e0 := (hb.cell (p := ⟨bf, of_ + i * 3, none⟩) hbfc).trans c0
                  obtain ⟨v0, v1, vf0, vf1⟩ := X13w.c2
                  have r2w := r2.below hb
                  have rqw := (rqc.below hb)
                  have hgl := X13w.lt
                  have hgw : w.heap.size < g := by omega
                  clear hb
                  obtain ⟨wo, rfl⟩ : ∃ wo, wo = wr := ⟨_, rfl⟩
                  have hlen5 := left_out_length (isTake y.a y.b y.c) ql'
                  have hn2l := r2w.flen itc_len (by omega)
                  have hn2 : n2 ≤ 1000000 := by have := Hl4.out; omega
                  go_upto_region 25 with (fail)
                  go_cut [18] (fun s18 W => ∃ (n3 c3 m3 d3 : Nat) (A3 B3 : Option Addr), s18 = .slice B3 m3 d3 ∧ Bx W g #[.int .i64 50, .slice A3 n3 c3] ∧ Rd W (w.heap.size + 1 ≤ ·) 4 A3 n3 (flat itc (leftOf (isFail y.a) (leftOf (isTake y.a y.b y.c) ql'))) ∧ m3 = (outOf (isFail y.a) (leftOf (isTake y.a y.b y.c) ql')).length ∧ OInv w ql' N' M Aq' nq' cq' W)
                  case first =>
                    have hfail := fun W (hW : Below wo.heap.size wo W) => fail_any 50 A2 n2 c2 (leftOf (isTake y.a y.b y.c) ql') y.a W (r2w.below hW) hn2 50 _ _ (.inl ⟨quMay_left _ hmay, rfl, rfl, rfl⟩)
                    have Hfail := Lib.hid hfail
                    unfold quA at Hfail
                    clear hfail
                    have sof : ∀ W, Below wo.heap.size wo W → (Below wo.heap.size wo W ∧ W.cell? ⟨g, 0, none⟩ = some (.int .i64 50) ∧ W.cell? ⟨g, 1, none⟩ = some (.slice A2 n2 c2) ∧ W.cell? ⟨bf, of_ + i * 3, none⟩ = some (.int .i64 y.a)) := fun W hW => ⟨hW, (X13w.below hW).c2.1, (X13w.below hW).c2.2.1, (hW.cell (p := ⟨bf, _, none⟩) (Nat.lt_of_lt_of_le hbfc hb'.size)).trans e0⟩
                    have s0 := sof _ ((Below.refl wo.heap.size wo).drew)
                    go_split_ands
                    go_region_with (first | (go_at_call 10; refine (Hfail.out _ ((Below.refl _ _).drew)).mono ?_; rintro e w5 ⟨A3, n3, c3, B3, m3, d3, rfl, r4, r5, hb5⟩; unfold quA; obtain ⟨y0, y1, yf0, yf1⟩ := (X13w.drew.below hb5).c2))
                    all_goals
                      go_wp2_with fail
                      go_meet
                      case rel =>
                        have hb6 : Below wo.heap.size wo w5 := ((Below.refl _ _).drew).trans hb5
                        have hm3 := ii_len r5
                        refine ⟨n3, c3, m3, d3, A3, B3, rfl, ((X13w.below hb6).set 0 _).set 1 _, ?_, hm3.symm, ?_⟩
                        · have hgl' : g < wo.drew.heap.size := hgl
                          refine ((r4.setCell ?_ _).setCell ?_ _).mono ?_
                          · show ¬ wo.drew.heap.size ≤ g; omega
                          · show ¬ wo.drew.heap.size ≤ g; omega
                          · intro b hb
                            have : wo.drew.heap.size ≤ b := hb
                            omega
                        · have hv6 := hvw.below hb6
                          have rq6 := rqw.below hb6
                          refine ⟨(hv6.bx.far (by show w.heap.size ≠ g; omega) _).far (by show w.heap.size ≠ g; omega) _, ?_, hmay, hv6.cnt, (hv6.be.setCell (by show w.heap.size ≤ g; omega) _).setCell (by show w.heap.size ≤ g; omega) _⟩
                          exact ((rq6.setCell (by show ¬ (w.heap.size + 1 ≤ g ∧ g < V.heap.size); omega) _).setCell (by show ¬ (w.heap.size + 1 ≤ g ∧ g < V.heap.size); omega) _).mono (fun b hb => hb.1)
                  case rest =>
                    obtain ⟨n3, c3, m3, d3, A3, B3, rfl, X13v, r6, hm3, hv7⟩ := hcut
                    obtain ⟨y0, y1, -, -⟩ := X13v.c2
                    obtain ⟨t0, t1, tf0, tf1⟩ := hv7.bx.c2
                    have hlen6 := left_out_length (isFail y.a) (leftOf (isTake y.a y.b y.c) ql')
                    have hm3b : m3 ≤ 50 := by have := Hl4.out; omega
                    have Hm3 := Lib.hid hm3
                    have Hlen6 := Lib.hid hlen6
                    have Hlen5 := Lib.hid hlen5
                    have Hv7 := Lib.hid hv7
                    clear hm3 hlen6 hlen5 hn2l hv7 v0 v1 vf0 vf1 e0
                    go_wp2_with fail
                    go_meet
                    case rel =>
                      exact ⟨M + kk + m3, n3, c3, A3, leftOf (isFail y.a) (leftOf (isTake y.a y.b y.c) ql'), by go_num, Hv7.out.put r6 (quMay_left _ (quMay_left _ hmay)) (by have := Hm3.out; have := Hlen6.out; have := Hlen5.out; have := Hmlen.out; have := Hl4.out; have := Hl6.out; omega)⟩
          · go_wp2_with fail
            go_meet
            case rel => exact ⟨M, nq', cq', Aq', ql', rfl, hv3⟩
        case rest =>
          obtain ⟨M', nq2, cq2, Aq2, ql2, rfl, hv4⟩ := hcut
          have hlen4 := hv4.len
          obtain ⟨hl7, hl8, hl9⟩ := hlen4
          have k1 := hv4.bx.c2.2.1
          have hne : ((M' : Int) + (nq2 : Int) != (N' : Int)) = false := by simp; omega
          have hM : M' ≤ 41 := by omega
          clear hl7 hl9
          go_wp2_with fail
          go_roundg (41 - (i + 1))
          case measure => have := Hm.out; omega
          case rel => exact ⟨i + 1, N', M', nq2, cq2, Aq2, ql2, rfl, by omega, by omega, by go_num, rfl, rfl, hv4⟩
    · have hbe := hv.be
      by_cases hin1 : i < nL
      · have h40 : ¬ (i : Int) < 40 := by omega
        go_wp2_with fail
        refine (sure_any _).mono ?_
        rintro e w4 ⟨rfl, hb4⟩
        go_wp2_with fail
        go_ret
        exact ⟨rfl, hbe.trans (hb4.mono hbe.size)⟩
      · go_wp2_with fail
        refine (sure_any _).mono ?_
        rintro e w4 ⟨rfl, hb4⟩
        go_wp2_with fail
        go_ret
        exact ⟨rfl, hbe.trans (hb4.mono hbe.size)⟩
end Go.Proofs.Ytodjjcnidgmkmaa
