/- Walk: StableSaves. -/
import Derived.Test.YtlecglmiigdjlaaGreatDoorZa29
import Derived.Test.YtlecglmiigdjlaaGreatDoorZa30
import Derived.Test.YtlecglmiigdjlaaGreatDoorZa31
import Derived.Test.YtlecglmiigdjlaaGreatDoorZa32
import Derived.Deep.CutBlock
namespace Go.Proofs.YtlecglmiigdjlaaGreatDoor
open Go.RowKit
set_option maxRecDepth 100000
set_option linter.unusedVariables false
set_option linter.unusedSimpArgs false
theorem sv_cells {w : World} {ok : Nat → Prop} {n : Nat} {A : Option Addr} {l : List Sv} (h : Rd w ok 7 A n (flat scell l)) {j : Nat} (hj : j < n) : ∃ b o x, A = some ⟨b, o, none⟩ ∧ ok b ∧ b < w.heap.size ∧ l[j]? = some x ∧
    w.cell? ⟨b, o + j * 7, none⟩ = some (.int .i64 x.tm) ∧ w.cell? ⟨b, o + j * 7 + 1, none⟩ = some (.int .i64 x.vt) ∧ w.cell? ⟨b, o + j * 7 + 2, none⟩ = some (.int .i64 x.b) ∧ w.cell? ⟨b, o + j * 7 + 3, none⟩ = some (.int .i64 x.t) ∧ w.cell? ⟨b, o + j * 7 + 4, none⟩ = some (.slice x.A x.n x.c) ∧ w.cell? ⟨b, o + j * 7 + 5, none⟩ = some (.slice x.C x.nc x.cc) ∧ w.cell? ⟨b, o + j * 7 + 6, none⟩ = some (.slice x.S x.ns x.cs) := by
  obtain ⟨b, o, x, hA, hb, hlt, hx, hc⟩ := h.fat scell_len (by omega) hj
  exact ⟨b, o, x, hA, hb, hlt, hx, hc 0 _ rfl, hc 1 _ rfl, hc 2 _ rfl, hc 3 _ rfl, hc 4 _ rfl, hc 5 _ rfl, hc 6 _ rfl⟩
def Sv0 : Sv := ⟨0, 0, 0, 0, none, 0, 0, [], none, 0, 0, [], none, 0, 0, []⟩
attribute [local go_sem] fld_tm
set_option maxHeartbeats 6400000 in
theorem saves_walk (A0 : Option Addr) (n0 c0 : Nat) (l0 : List Int) (A1 : Option Addr) (n1 c1 : Nat) (Ls : List Sv) (size : Int) (w : World) (r0 : Rd w T 1 A0 n0 (ii l0)) (k0 : n0 ≤ c0 ∧ c0 ≤ maxLen) (r1 : Rd w T 7 A1 n1 (flat scell Ls)) (hL : ∀ s ∈ Ls, s.At w T ∧ s.I) (htab : TabW w) (hev : EvW w w.heap.size) (hg : ErrT w) :
    Calls Tryz.prog 3 #[.slice A0 n0 c0, .slice A1 n1 c1, .int .i64 size] w (YesPost w) := by
  obtain ⟨q, hq3, -, hq1, hq2⟩ := uint_mod size 3000 3000 rfl (by omega) (by omega)
  have hsure := fun W (hb : Below w.heap.size w W) => sure_any W (htab.below hb (Nat.le_refl _)) ((hev.below hb (Nat.le_refl _)).mono hb.size)
  have hw0 := hg.lt
  have hnum : ∀ k W, Below w.heap.size w W → Calls Tryz.prog 6 #[errD k] W fun e w' => e = .returned (.int .i64 k) ∧ Below W.heap.size W w' := fun k W hb => num_any k W (hg.under hb hw0)
  have htb := fun W (hb : Below w.heap.size w W) => htab.below hb (Nat.le_refl _)
  have hvb := fun W (hb : Below w.heap.size w W) => (hev.below hb (Nat.le_refl _)).mono hb.size
  have Hsure := Lib.hid hsure
  have Hnum := Lib.hid hnum
  have Htb := Lib.hid htb
  have Hvb := Lib.hid hvb
  have R0 := Lib.hid r0
  have R1 := Lib.hid r1
  have HL := Lib.hid hL
  have hs0 := save_nil Sv0 w
  have Hs0 := Lib.hid hs0
  clear hsure hnum htb hvb htab hev hg r0 r1 hL hs0
  unfold Sv0 Sv.val stA at Hs0
  go_enter Tryz.func3, Tryz.ntmps3
  go_wp2_with fail
  refine Hs0.out.mono ?_
  rintro e w1 ⟨rfl, hb1⟩
  have B1 := Lib.hid hb1
  clear hb1
  have hn1 := Hnum.out 1 w1 B1.out
  rw [show errD 1 = .iface 69 (.int .i64 1) from rfl] at hn1
  have Hn1 := Lib.hid hn1
  clear hn1
  go_wp2_with fail
  refine Hn1.out.mono ?_
  rintro e w2 ⟨rfl, hb2⟩
  have B2 := Lib.hid (B1.out.trans (hb2.mono B1.out.size))
  clear hb2
  go_wp2_with fail
  refine (saves_nil w2).mono ?_
  rintro e w3 ⟨rfl, hw⟩
  subst hw
  go_wp2_with fail
  refine (load_nil w3).mono ?_
  rintro e w4 ⟨rfl, hb4⟩
  have B4 := Lib.hid (B2.out.trans (hb4.mono B2.out.size))
  clear hb4
  unfold z7
  by_cases hn : 100 < n0
  · have hnI : decide ((100 : Int) < (n0 : Nat)) = true := decide_eq_true (by omega)
    have Hs := Lib.hid (Hsure.out _ B4.out)
    go_wp2_with fail
    refine Hs.out.mono ?_
    rintro e w5 ⟨rfl, hb5⟩
    have B5 := Lib.hid (B4.out.trans (hb5.mono B4.out.size))
    go_wp2_with fail
    go_ret
    exact ⟨rfl, B5.out⟩
  have hnI : decide ((100 : Int) < (n0 : Nat)) = false := decide_eq_false (by omega)
  obtain ⟨N, hN⟩ : ∃ N, N = 200 + q := ⟨_, rfl⟩
  have hNI : (200 : Int) + (q : Int) = (N : Int) := by omega
  have hN2 : 200 ≤ N := by omega
  have hN3 : N ≤ 3200 := by omega
  have HNI := Lib.hid hNI
  clear hN hNI
  have hbk := blank_any N (by omega) (by omega) w4
  have Hbk := Lib.hid hbk
  clear hbk
  go_wp2_with fail
  rw [HNI.out]
  refine Hbk.out.mono ?_
  rintro e w5 ⟨L, g, rfl, hd, hl, hb5⟩
  have B5 := Lib.hid (B4.out.trans (hb5.mono B4.out.size))
  have D5 := Lib.hid (And.intro hd hl)
  have how := lown_any A0 n0 c0 l0 w5 (R0.out.below B5.out) (by omega)
  have How := Lib.hid how
  have hz4 := B4.out.size
  have Hz4 := Lib.hid hz4
  clear hd hl hb5 how hz4
  go_wp2_with fail
  refine How.out.mono ?_
  rintro e w6 ⟨A6, c6, rfl, own6, hb6⟩
  have B6 := Lib.hid (B5.out.trans (hb6.mono B5.out.size))
  have O6 := Lib.hid (And.intro own6 hb6)
  have hck : ∀ W, Below w.heap.size w W → ∀ (A : Option Addr) (c : Nat) , Rd W T 1 A n0 (ii l0) → Calls Tryz.prog 14 #[.slice A n0 c] W (ChPost W (cmay l0)) := fun W hb A c hr => chk_any A n0 c l0 W hr (by omega)
  have Hck := Lib.hid hck
  clear own6 hb6 hck
  by_cases hm : cmay l0 = true
  · have hop := kopen_any (fb := 0) A6 n0 c6 l0 w6 (D5.out.1.below O6.out.2) ((Rd.of_own O6.out.1).mono fun b hb hL => by have := D5.out.1.lt b hL; have h9 : w5.heap.size ≤ b := hb; omega) (own_cap O6.out.1) hm (by omega) rfl (by simp [Dk.make]) (Htb.out _ B6.out) (Hvb.out _ B6.out) (by have := B6.out.size; omega)
    have Hop := Lib.hid hop
    clear hop
    go_wp2_with fail
    refine Hop.out.mono ?_
    intro e w7 hp
    obtain ⟨K1, D1, k, t0, t1, z1, L', rfl, kx, hl', hk0, hk1, hk2, hkp, hi, hnn, hnow, harm⟩ := hp.fresh hm (by omega)
    have hb7 : Below w.heap.size w w7 := B6.out.trans (hkp.under2 (fun b hb => by have := D5.out.2 b hb; have := Hz4.out; omega) B6.out.size)
    have hz6 := B6.out.size
    have lo1 : ∀ b, L' b → w.heap.size ≤ b := fun b hb => (hl' b hb).elim (fun h => by have := D5.out.2 b h; have := Hz4.out; omega) fun h => by omega
    have X7 := Lib.hid (And.intro kx (And.intro lo1 (And.intro hi (And.intro hnn (And.intro hnow (And.intro harm (And.intro (by omega : w.heap.size ≤ k) (And.intro (by omega : w.heap.size ≤ t0) (by omega : w.heap.size ≤ t1)))))))))
    have B7 := Lib.hid hb7
    have how2 := lown_any A0 n0 c0 l0 w7 (R0.out.below hb7) (by omega)
    have How2 := Lib.hid how2
    clear kx lo1 hi hnn hnow harm hkp hl' hk0 hk1 hk2 hb7 hz6 how2 hp
    go_wp2_with fail
    refine How2.out.mono ?_
    rintro e w8 ⟨A8, c8, rfl, own8, hb8⟩
    have B8 := Lib.hid (B7.out.trans (hb8.mono B7.out.size))
    have hc8 := Hck.out w8 B8.out A8 c8 (Rd.of_own own8).any
    rw [hm] at hc8
    have Hc8 := Lib.hid hc8
    have x8 := X7.out.1.below hb8
    have X8 := Lib.hid x8
    clear hc8 own8 hb8 x8
    go_wp2_with fail
    refine Hc8.out.mono ?_
    rintro e w9 ⟨rfl, hw⟩
    subst hw
    rw [if_pos (by trivial)]
    have y1 : Sv.At ⟨0, 0, 0, 0, none, 0, 0, [], A0, n0, c0, l0, none, 0, 0, []⟩ w T := ⟨Rd.none_, (fun y hy => by cases hy), R0.out, Rd.none_, ⟨Nat.le_refl _, Nat.zero_le _⟩, k0, ⟨Nat.le_refl _, Nat.zero_le _⟩⟩
    have y2 : Sv.Fit ⟨0, 0, 0, 0, none, 0, 0, [], A0, n0, c0, l0, none, 0, 0, []⟩ := ⟨⟨by unfold I64; dsimp only; omega, by unfold I64; dsimp only; omega, by unfold I64; dsimp only; omega, by unfold I64; dsimp only; omega⟩, (fun y hy => by cases hy), ⟨Nat.zero_le _, by dsimp only; omega, Nat.zero_le _⟩⟩
    have hst := SavI.start X8.out X7.out.2.2.1 (by rw [X7.out.2.2.2.1]; exact Nat.le_refl _) X7.out.2.1 X7.out.2.2.2.2.2.2.1 X7.out.2.2.2.2.2.2.2.1 X7.out.2.2.2.2.2.2.2.2 B8.out y1 y2
    have S0 := Lib.hid hst
    clear y1 y2 hst
    go_wp2_with fail
    have B9 := Lib.hid S0.out.be
    obtain ⟨nb, hnb⟩ : ∃ nb, nb = w8.heap.size := ⟨_, rfl⟩
    rw [← hnb] at S0 ⊢
    clear hnb
    go_loopg [10, 13, 14, 15, 16, 17, 18, 19] 12 (fun m s10 s13 s14 s15 s16 s17 s18 s19 wr => ∃ i kb K D y, m = 12 - i ∧ i ≤ 12 ∧ s10 = .pointer (some ⟨kb, 0, none⟩) ∧ s13 = .int .i64 (K.n : Nat) ∧ s14 = .int .i64 (i : Nat) ∧ SavI w wr g nb N kb K D y ∧ y.st = K.now ∧ D.armed = 0 ∧ K.n ≤ 1 + i)
    case atStart => exact ⟨0, k, K1, D1, _, by omega, by omega, rfl, by rw [X7.out.2.2.2.1]; rfl, rfl, S0.out, X7.out.2.2.2.2.1.symm, X7.out.2.2.2.2.2.1, by rw [X7.out.2.2.2.1]; omega⟩
    case round =>
      obtain ⟨i, kb, K, D, y, hm', hi, rfl, rfl, rfl, hsv, hyn, ha, hKn⟩ := hrel
      have Hm := Lib.hid hm'
      have SV := Lib.hid (And.intro hsv (And.intro hyn (And.intro ha hKn)))
      clear hm' hsv hyn ha hKn S0
      obtain ⟨wa, rfl⟩ : ∃ wa, wa = wr := ⟨_, rfl⟩
      go_upto_region 15 with (fail)
      go_cut [83] (fun s83 W => s83 = .bool (decide (i < n1 ∧ i < 12)) ∧ W = wa)
      case first =>
        by_cases h1 : i < n1
        · have h1I : (i : Int) < n1 := by omega
          by_cases h2 : i < 12
          · have h2I : (i : Int) < 12 := by omega
            go_wp2_with fail
            go_meet
            case rel => exact ⟨by simp [h1, h2], rfl⟩
          · have h2d : decide ((i : Int) < 12) = false := by simp; omega
            go_wp2_with fail
            go_meet
            case rel => exact ⟨by simp [h1, h2], rfl⟩
        · have h1d : decide ((i : Int) < n1) = false := by simp; omega
          go_wp2_with fail
          go_meet
          case rel => exact ⟨by simp [h1], rfl⟩
      case rest =>
      obtain ⟨rfl, rfl⟩ := hcut
      by_cases hlt : i < n1 ∧ i < 12
      · have hd83 : decide (i < n1 ∧ i < 12) = true := by simp [hlt]
        rw [hd83]
        obtain ⟨hin, hi12⟩ := hlt
        obtain ⟨b, o, s, rfl, -, hbl, hs, q0⟩ := sv_cells R1.out hin
        have hcl : ∀ W, Below w.heap.size w W → (W.cell? ⟨b, o + i * 7, none⟩ = some (.int .i64 s.tm) ∧ W.cell? ⟨b, o + i * 7 + 1, none⟩ = some (.int .i64 s.vt) ∧ W.cell? ⟨b, o + i * 7 + 2, none⟩ = some (.int .i64 s.b) ∧ W.cell? ⟨b, o + i * 7 + 3, none⟩ = some (.int .i64 s.t) ∧ W.cell? ⟨b, o + i * 7 + 4, none⟩ = some (.slice s.A s.n s.c) ∧ W.cell? ⟨b, o + i * 7 + 5, none⟩ = some (.slice s.C s.nc s.cc) ∧ W.cell? ⟨b, o + i * 7 + 6, none⟩ = some (.slice s.S s.ns s.cs)) := fun W hb =>
          have hc := fun (j : Nat) => hb.cell (p := ⟨b, o + i * 7 + j, none⟩) hbl
          ⟨(hc 0).trans q0.1, (hc 1).trans q0.2.1, (hc 2).trans q0.2.2.1, (hc 3).trans q0.2.2.2.1, (hc 4).trans q0.2.2.2.2.1, (hc 5).trans q0.2.2.2.2.2.1, (hc 6).trans q0.2.2.2.2.2.2⟩
        have Hcl := Lib.hid hcl
        have hsI := HL.out s (List.mem_of_getElem? hs)
        have HsI := Lib.hid hsI
        have hrb : reachBytes = 140737488351232 := rfl
        have hlo := long_any s wc (hsI.1.below SV.out.1.be) (fun x hx => by have := (hsI.2.2 x hx).2; omega) (by have := hsI.1.k1; unfold maxLen at this; omega) (by have := hsI.1.k3; unfold maxLen at this; omega) (by have := hsI.1.k2; unfold maxLen at this; omega)
        obtain ⟨lg, hlg⟩ : ∃ lg, longS s = lg := ⟨_, rfl⟩
        rw [hlg] at hlo
        have Hlo := Lib.hid hlo
        have Hlg := Lib.hid hlg
        obtain ⟨c0', c1', c2', c3', c4', c5', c6'⟩ := hcl wc SV.out.1.be
        have hinI : (i : Int) < n1 := by omega
        have h0i : (0 : Int) ≤ i := by omega
        clear hcl hsI hlo hlg q0 hs hrb hd83
        unfold Sv.val stA at Hlo
        go_wp2_with fail
        refine Hlo.out.mono ?_
        rintro e w10 ⟨rfl, hb10⟩
        clear c0' c1' c2' c3' c4' c5' c6'
        have SV10 := Lib.hid (SV.out.1.below hb10)
        clear hb10
        cases lg with
        | true =>
          go_wp2_with fail
          go_roundg (12 - (i + 1))
          case measure => have := Hm.out; omega
          case rel => exact ⟨i + 1, kb, K, D, y, rfl, by omega, rfl, rfl, by go_num, SV10.out, SV.out.2.1, SV.out.2.2.1, by have := SV.out.2.2.2; omega⟩
        | false =>
          have hfit := (HsI.out.1.below SV10.out.be).fit_long ⟨HsI.out.2.1, fun y hy => (HsI.out.2.2 y hy).1⟩ Hlg.out
          have hlen := fun n => HsI.out.1.len_long Hlg.out n
          have Fit := Lib.hid hfit
          have Len := Lib.hid hlen
          have hgv := giveS_any s w10 (HsI.out.1.below SV10.out.be) hfit
          have Hgv := Lib.hid hgv
          obtain ⟨c0', c1', c2', c3', c4', c5', c6'⟩ := Hcl.out w10 SV10.out.be
          clear hfit hlen hgv
          unfold Sv.val stA at Hgv
          go_wp2_with fail
          refine Hgv.out.mono ?_
          rintro e w11 ⟨s', rfl, at', st', fit', hb11⟩
          clear c0' c1' c2' c3' c4' c5' c6'
          have hsave := SV10.out.save s' hb11 at' fit' (Htb.out _ (SV10.out.be.trans (hb11.mono SV10.out.be.size))) (Hvb.out _ (SV10.out.be.trans (hb11.mono SV10.out.be.size))) (by omega) (by have := SV.out.2.2.2; omega) SV.out.2.2.1 (by rw [st']; exact Len.out _)
          rw [st'] at hsave
          have Hsave := Lib.hid hsave
          clear hsave at' st' fit' hb11
          go_wp2_with fail
          refine Hsave.out.mono ?_
          rintro e w12 ⟨c, K', D', rfl, O, ha', sv12⟩
          have SV12 := Lib.hid sv12
          have OO := Lib.hid (And.intro O ha')
          have hff := fun W (hb : Below w12.heap.size w12 W) => And.intro (Hcl.out W (SV12.out.be.trans (hb.mono SV12.out.be.size))) (Sv.c7 (SV12.out.bx.below hb))
          have FF := Lib.hid hff
          have heS := fun n W (hb : Below w12.heap.size w12 W) => kencR_any n s W (HsI.out.1.below (SV12.out.be.trans (hb.mono SV12.out.be.size))) Fit.out
          have heY := fun n W (hb : Below w12.heap.size w12 W) => kencR_any n y W (SV12.out.y1.below (SV12.out.be.trans (hb.mono SV12.out.be.size))) SV12.out.y2
          have HeS := Lib.hid heS
          have HeY := Lib.hid heY
          unfold Sv.val stA at HeS HeY
          clear sv12 O ha' hff heS heY
          obtain ⟨gv, hgv⟩ : ∃ gv, gv = errD c := ⟨_, rfl⟩
          rw [← hgv]
          have GV := Lib.hid hgv
          clear hgv
          go_upto_region 19 with (fail)
          refine wp_region_S 10 (fun W => Below w12.heap.size w12 W) (.take 0 (.take 1 (.take 2 (.take 3 (.take 6 (.one 4 (.take 5 (.one 7 (.take 8 (.take 9 (.one 10 (.nil)))))))))))) (by kernel_rfl) (Below.refl _ _).drew (fun _ _ _ _ h => h) (fun hS => ?_)
          repeat (first
            | (refine wpS_take (v := ?_) rfl rfl (by rfl) ?_ ?_; rotate_left; (intro W hW; have hf := FF.out W hW; go_split_ands; go_simp; try with_reducible rfl); try simp only [Act.put, List.setIfInBounds_toArray, List.set_cons_zero, List.set_cons_succ])
            | (refine wpS_skip rfl rfl (by rfl) ?_; try simp only [Act.put, List.setIfInBounds_toArray, List.set_cons_zero, List.set_cons_succ]))
          refine wpS_one rfl (by rfl) (fun K hK => ?_)
          go_simp
          go_at_call 17
          refine (HeS.out 0 _ hS).mono ?_
          rintro e w13 ⟨A13, n13, c13, rfl, o13, hb13⟩
          have hS13 : Below w12.heap.size w12 w13 := hS.trans (hb13.mono hS.size)
          have hf13 := fun W (hb : Below w13.heap.size w13 W) => And.intro (FF.out W (hS13.trans (hb.mono hS13.size))) (conv_bytes (P := Tryz.prog) (c := c13) 33 9 5 Tryz.underlying33 Tryz.underlying5 Tryz.underlying9 ((Rd.of_own o13).below hb))
          have F13 := Lib.hid hf13
          clear hf13
          refine hK (fun W => Below w13.heap.size w13 W) _ _ (fun W h => hS13.trans (h.mono hS13.size)) (Below.refl _ _) ?_
          clear hK K
          try simp only [Act.put, List.setIfInBounds_toArray, List.set_cons_zero, List.set_cons_succ]
          repeat (first
            | (refine wpS_take (v := ?_) rfl rfl (by rfl) ?_ ?_; rotate_left; (intro W hW; have hf := F13.out W hW; go_split_ands; go_simp; try with_reducible rfl); try simp only [Act.put, List.setIfInBounds_toArray, List.set_cons_zero, List.set_cons_succ])
            | (refine wpS_skip rfl rfl (by rfl) ?_; try simp only [Act.put, List.setIfInBounds_toArray, List.set_cons_zero, List.set_cons_succ]))
          refine wpS_one rfl (by rfl) (fun K hK => ?_)
          go_simp
          go_at_call 17
          refine (HeY.out 0 _ hS13).mono ?_
          rintro e w14 ⟨A14, n14, c14, rfl, o14, hb14⟩
          have hS14 : Below w12.heap.size w12 w14 := hS13.trans (hb14.mono hS13.size)
          have hf14 := fun W (hb : Below w14.heap.size w14 W) => And.intro (FF.out W (hS14.trans (hb.mono hS14.size))) (conv_bytes (P := Tryz.prog) (c := c14) 33 9 5 Tryz.underlying33 Tryz.underlying5 Tryz.underlying9 ((Rd.of_own o14).below hb))
          have F14 := Lib.hid hf14
          clear hf14
          refine hK (fun W => Below w14.heap.size w14 W) _ _ (fun W h => hb14.trans (h.mono hb14.size)) (Below.refl _ _) ?_
          clear hK K
          try simp only [Act.put, List.setIfInBounds_toArray, List.set_cons_zero, List.set_cons_succ]
          repeat (first
            | (refine wpS_take (v := ?_) rfl rfl (by rfl) ?_ ?_; rotate_left; (intro W hW; have hf := F14.out W hW; go_split_ands; go_simp; try with_reducible rfl); try simp only [Act.put, List.setIfInBounds_toArray, List.set_cons_zero, List.set_cons_succ])
            | (refine wpS_skip rfl rfl (by rfl) ?_; try simp only [Act.put, List.setIfInBounds_toArray, List.set_cons_zero, List.set_cons_succ]))
          refine wpS_last rfl (by rfl) (fun K hK => ?_)
          go_simp
          refine hK _ _ ?_
          clear hK K
          try simp only [Act.put, List.setIfInBounds_toArray, List.set_cons_zero, List.set_cons_succ]
          refine wpS_nil ?_
          obtain ⟨sm, hsm⟩ : ∃ sm, sm = (stL 0 s.st == stL 0 y.st) := ⟨_, rfl⟩
          rw [← hsm]
          have SM := Lib.hid hsm
          have SV14 := Lib.hid (SV12.out.below hS14)
          have he15 := HeS.out ((K.n : Nat) + 1) w14 hS14
          have He15 := Lib.hid he15
          have hKb : ((K.n : Nat) : Int) ≤ 13 := by have := SV.out.2.2.2; omega
          obtain ⟨c0', c1', c2', c3', c4', c5', c6'⟩ := Hcl.out w14 SV14.out.be
          clear hsm he15 hS14 hb14 hb13 hS13 o13 o14 hS F13 F14
          go_wp2_with fail
          refine He15.out.mono ?_
          rintro e w15 ⟨A15, n15, c15, rfl, o15, hb15⟩
          have hn15 : (stL ((K.n : Nat) + 1 : Int) s.st).length = n15 := (Rd.of_own o15).blen
          have N15 := Lib.hid hn15
          have SV15 := Lib.hid (SV14.out.below hb15)
          have hri := lright_any s w15 (HsI.out.1.below SV15.out.be) Fit.out
          obtain ⟨rt, hrt⟩ : ∃ rt, s.st.may = rt := ⟨_, rfl⟩
          rw [hrt] at hri
          have Hri := Lib.hid hri
          have RT := Lib.hid hrt
          unfold Sv.val stA at Hri
          clear c0' c1' c2' c3' c4' c5' c6' o15 hn15 hri hrt hb15
          go_upto_block 2 with (fail)
          go_cut [13, 15, 16, 17] (fun s13 s15 s16 s17 W => s13 = .int .i64 (K'.n : Nat) ∧ ∃ y', SavI w W g nb N kb K' D' y' ∧ y'.st = K'.now ∧ K'.n ≤ 2 + i)
          case first =>
            obtain ⟨c0', c1', c2', c3', c4', c5', c6'⟩ := Hcl.out w15 SV15.out.be
            go_wp2_with fail
            refine Hri.out.mono ?_
            rintro e w16 ⟨rfl, hb16⟩
            have SV16 := Lib.hid (SV15.out.below hb16)
            clear c0' c1' c2' c3' c4' c5' c6' hb16
            obtain ⟨c0', c1', c2', c3', c4', c5', c6'⟩ := Hcl.out w16 SV16.out.be
            obtain ⟨d0', d1', d2', d3', d4', d5', d6'⟩ := Sv.c7 SV16.out.bx
            have fk := SV16.out.bx.f
            have g0' := fk 0
            have g1' := fk 1
            have g2' := fk 2
            have g3' := fk 3
            have g4' := fk 4
            have g5' := fk 5
            have g6' := fk 6
            clear fk
            rcases OO.out.1 with ⟨h1, h2, h3⟩ | ⟨h1, h2, h3, h4⟩ | ⟨h1, h2, h3, h4, h5⟩ | ⟨h1, h2, h3, h4, h5⟩
            · have hrt : rt = true := by rw [← RT.out, h2]; exact (SV.out.1.inv.cur SV.out.1.n1).1
              have hsm : sm = true := by rw [SM.out, SV.out.2.1, h2]; simp
              have hgv : gv = .nilIface := by rw [GV.out, h1]; rfl
              subst h3
              have H2 := Lib.hid h2
              subst hrt hsm hgv
              clear h1 h2
              go_wp2_with fail
              go_meet
              case rel => exact ⟨rfl, s, SV16.out.put HsI.out.1 Fit.out, H2.out, by have := SV.out.2.2.2; omega⟩
            · have hrt : rt = false := by rw [← RT.out, h3]
              have hgv : gv = .iface 69 (.int .i64 1) := by rw [GV.out, h1]; rfl
              subst h4
              have hn16 := Hnum.out 1 w16 SV16.out.be
              rw [show errD 1 = .iface 69 (.int .i64 1) from rfl] at hn16
              have Hn16 := Lib.hid hn16
              subst hrt hgv
              clear h1 h2 h3 hn16
              go_wp2_with fail
              refine Hn16.out.mono ?_
              rintro e w17 ⟨rfl, hb17⟩
              have SV17 := Lib.hid (SV16.out.below hb17)
              clear hb17 c0' c1' c2' c3' c4' c5' c6' d0' d1' d2' d3' d4' d5' d6' g0' g1' g2' g3' g4' g5' g6'
              go_wp2_with fail
              go_meet
              case rel => exact ⟨rfl, y, SV17.out, SV.out.2.1, by have := SV.out.2.2.2; omega⟩
            · have hrt : rt = true := by rw [← RT.out, h3]
              have hgv : gv = .iface 69 (.int .i64 10) := by rw [GV.out, h1]; rfl
              subst h4
              have hn16 := Hnum.out 10 w16 SV16.out.be
              rw [show errD 10 = .iface 69 (.int .i64 10) from rfl] at hn16
              have Hn16 := Lib.hid hn16
              have hbg : ¬ ((n15 : Int) ≤ ((N / 2 : Nat) : Int) - 5) := by rw [N15.out] at h5; omega
              have Hbg := Lib.hid hbg
              subst hrt hgv
              clear h1 h2 h3 h5 hn16 hbg
              go_wp2_with fail
              refine Hn16.out.mono ?_
              rintro e w17 ⟨rfl, hb17⟩
              have SV17 := Lib.hid (SV16.out.below hb17)
              clear hb17 c0' c1' c2' c3' c4' c5' c6' d0' d1' d2' d3' d4' d5' d6' g0' g1' g2' g3' g4' g5' g6'
              have hbd : decide ((n15 : Int) ≤ (N : Int) / 2 - 5) = false := by have := Hbg.out; simp; omega
              go_wp2_with fail
              go_meet
              case rel => exact ⟨rfl, y, SV17.out, SV.out.2.1, by have := SV.out.2.2.2; omega⟩
            · have hrt : rt = true := by rw [← RT.out, h3]
              have hsm : sm = false := by
                rw [SM.out, SV.out.2.1]
                have hcu := SV.out.1.inv.cur SV.out.1.n1
                have hne : stL 0 s.st ≠ stL 0 K.now := fun e => h2 (stL_inj h3 hcu.1 (by omega) (by omega) (Len.out 1 h3).2 hcu.2 ((stL_iff (m := 1)).1 e))
                simpa using hne
              have hgv : gv = .nilIface := by rw [GV.out, h1]; rfl
              have H5 := Lib.hid (And.intro h4 h5)
              subst hrt hsm hgv
              clear h1 h2 h3 h4 h5
              go_wp2_with fail
              go_meet
              case rel => exact ⟨by rw [H5.out.1]; rfl, s, SV16.out.put HsI.out.1 Fit.out, H5.out.2.symm, by have := SV.out.2.2.2; have := H5.out.1; omega⟩
          case rest =>
            obtain ⟨rfl, y2, sv2, hy2, hk2⟩ := hcut
            have K17 := Lib.hid (And.intro hy2 hk2)
            have OO2 := Lib.hid OO.out.2
            have SV17 := Lib.hid sv2
            have hcu := sv2.inv.cur sv2.n1
            have Cu := Lib.hid hcu.1
            have hsa := sv2.saves
            have Hsa := Lib.hid hsa
            clear hy2 hk2 sv2 hcu hsa SV15 SV14 SV12 SV10 HeS HeY FF GV OO RT SM N15 Hcl Fit Len
            go_wp2_with fail
            refine Hsa.out.mono ?_
            rintro e w18 ⟨rfl, hw⟩
            have hw' := hw.symm
            clear hw
            subst hw'
            go_wp2_with fail
            have hal : Below wc.heap.size wc (wc.alloc (.cells #[.int .i64 9] 3)) := (Below.refl _ _).alloc (Nat.le_refl _) _
            have hb18 : Below w.heap.size w (wc.alloc (.cells #[.int .i64 9] 3)) := SV17.out.be.trans (hal.mono SV17.out.be.size)
            have hrl : Rd (wc.alloc (.cells #[.int .i64 9] 3)) (wc.heap.size ≤ ·) 1 (some ⟨wc.heap.size, 0, none⟩) 1 (ii [9]) := (show Rd (wc.alloc (.cells #[.int .i64 9] 3)) (wc.heap.size ≤ ·) 1 (some ⟨wc.heap.size, 0, none⟩) 1 [.int .i64 9] from Rd.lit rfl)
            have hag := SV17.out.again (some ⟨wc.heap.size, 0, none⟩) 1 1 [9] hal hrl ⟨by omega, by unfold maxLen; omega⟩ (by rfl) (Htb.out _ hb18) (Hvb.out _ hb18) (by omega)
            have Hag := Lib.hid hag
            clear hal hb18 hrl hag
            refine Hag.out.mono ?_
            rintro e w19 ⟨k', rfl, sva, svb⟩
            have SVA := Lib.hid sva
            have SVB := Lib.hid svb
            clear sva svb
            have hff := fun W (hb : Below w19.heap.size w19 W) => Sv.c7 (SVA.out.bx.below hb)
            have FF := Lib.hid hff
            have hsb := fun W (hb : Below w19.heap.size w19 W) => (SVB.out.below hb).saves
            have Hsb := Lib.hid hsb
            have hld := fun W (hb : Below w19.heap.size w19 W) => (SVA.out.below hb).load
            have Hld := Lib.hid hld
            have hld2 := fun W (hb : Below w19.heap.size w19 W) => (SVB.out.below hb).load
            have Hld2 := Lib.hid hld2
            have hsm := fun W (hb : Below w19.heap.size w19 W) (s' : Sv) (ok : Nat → Prop) (h1 : s'.At W ok) (h2 : s'.st = K'.now) (h3 : s'.Fit) => sameS_yes s' y2 W h1 ((SVA.out.below hb).y1.below (SVA.out.below hb).be) h3 SVA.out.y2 (h2.trans K17.out.1.symm) (by rw [h2]; exact Cu.out) (Htb.out _ (SVA.out.below hb).be)
            have Hsm := Lib.hid hsm
            clear hff hsb hld hld2 hsm
            go_upto_region 33 with (fail)
            refine wp_region_S 25 (fun W => Below w19.heap.size w19 W) (.take 0 (.take 1 (.take 2 (.take 3 (.take 4 (.take 5 (.take 6 (.take 7 (.take 9 (.one 8 (.take 10 (.take 11 (.take 12 (.take 13 (.take 15 (.one 14 (.one 16 (.take 17 (.take 18 (.take 19 (.take 20 (.take 22 (.one 21 (.one 23 (.take 24 (.one 25 (.nil))))))))))))))))))))))))))) (by kernel_rfl) (Below.refl _ _).drew (fun _ _ _ _ h => h) (fun hS => ?_)
            repeat (first
              | (refine wpS_take (v := ?_) rfl rfl (by rfl) ?_ ?_; rotate_left; (intro W hW; have hf := FF.out W hW; go_split_ands; go_simp; try with_reducible rfl); try simp only [Act.put, List.setIfInBounds_toArray, List.set_cons_zero, List.set_cons_succ])
              | (refine wpS_skip rfl rfl (by rfl) ?_; try simp only [Act.put, List.setIfInBounds_toArray, List.set_cons_zero, List.set_cons_succ]))
            refine wpS_one rfl (by rfl) (fun K hK => ?_)
            go_simp
            go_at_call 8
            refine (Hsb.out _ hS).mono ?_
            rintro e w20 ⟨rfl, hw20⟩
            have hS20 : Below w19.heap.size w19 w20 := by rw [hw20]; exact hS
            clear hw20
            refine hK (fun W => Below w20.heap.size w20 W) _ _ (fun W h => hS20.trans (h.mono hS20.size)) (Below.refl _ _) ?_
            clear hK K
            try simp only [Act.put, List.setIfInBounds_toArray, List.set_cons_zero, List.set_cons_succ]
            have hf20 := fun W (hb : Below w20.heap.size w20 W) => FF.out W (hS20.trans (hb.mono hS20.size))
            have F20 := Lib.hid hf20
            clear hf20
            repeat (first
              | (refine wpS_take (v := ?_) rfl rfl (by rfl) ?_ ?_; rotate_left; (intro W hW; have hf := F20.out W hW; go_split_ands; go_simp; try with_reducible rfl); try simp only [Act.put, List.setIfInBounds_toArray, List.set_cons_zero, List.set_cons_succ])
              | (refine wpS_skip rfl rfl (by rfl) ?_; try simp only [Act.put, List.setIfInBounds_toArray, List.set_cons_zero, List.set_cons_succ]))
            refine wpS_one rfl (by rfl) (fun K hK => ?_)
            go_simp
            go_at_call 9
            refine (Hld.out _ hS20).mono ?_
            rintro e w21 ⟨s21, rfl, a21, e21, f21, hb21⟩
            have hS21 : Below w19.heap.size w19 w21 := hS20.trans (hb21.mono hS20.size)
            have A21 := Lib.hid (And.intro a21 (And.intro e21 f21))
            clear a21 e21 f21
            have hv21 : s21.val = s21.val := rfl
            refine hK (fun W => Below w21.heap.size w21 W) _ _ (fun W h => hb21.trans (h.mono hb21.size)) (Below.refl _ _) ?_
            clear hK K
            try simp only [Act.put, List.setIfInBounds_toArray, List.set_cons_zero, List.set_cons_succ]
            refine wpS_one rfl (by rfl) (fun K hK => ?_)
            go_simp
            go_at_call 19
            refine (Hsm.out _ hS21 s21 _ A21.out.1 A21.out.2.1 A21.out.2.2).mono ?_
            rintro e w22 ⟨rfl, hb22⟩
            have hS22 : Below w19.heap.size w19 w22 := hS21.trans (hb22.mono hS21.size)
            have hf22 := fun W (hb : Below w22.heap.size w22 W) => FF.out W (hS22.trans (hb.mono hS22.size))
            have F22 := Lib.hid hf22
            clear hf22
            refine hK (fun W => Below w22.heap.size w22 W) _ _ (fun W h => hb22.trans (h.mono hb22.size)) (Below.refl _ _) ?_
            clear hK K
            try simp only [Act.put, List.setIfInBounds_toArray, List.set_cons_zero, List.set_cons_succ]
            repeat (first
              | (refine wpS_take (v := ?_) rfl rfl (by rfl) ?_ ?_; rotate_left; (intro W hW; have hf := F22.out W hW; go_split_ands; go_simp; try with_reducible rfl); try simp only [Act.put, List.setIfInBounds_toArray, List.set_cons_zero, List.set_cons_succ])
              | (refine wpS_skip rfl rfl (by rfl) ?_; try simp only [Act.put, List.setIfInBounds_toArray, List.set_cons_zero, List.set_cons_succ]))
            refine wpS_one rfl (by rfl) (fun K hK => ?_)
            go_simp
            go_at_call 9
            refine (Hld2.out _ hS22).mono ?_
            rintro e w23 ⟨s23, rfl, a23, e23, f23, hb23⟩
            have hS23 : Below w19.heap.size w19 w23 := hS22.trans (hb23.mono hS22.size)
            have A23 := Lib.hid (And.intro a23 (And.intro e23 f23))
            clear a23 e23 f23
            refine hK (fun W => Below w23.heap.size w23 W) _ _ (fun W h => hb23.trans (h.mono hb23.size)) (Below.refl _ _) ?_
            clear hK K
            try simp only [Act.put, List.setIfInBounds_toArray, List.set_cons_zero, List.set_cons_succ]
            refine wpS_one rfl (by rfl) (fun K hK => ?_)
            go_simp
            go_at_call 19
            refine (Hsm.out _ hS23 s23 _ A23.out.1 A23.out.2.1 A23.out.2.2).mono ?_
            rintro e w24 ⟨rfl, hb24⟩
            have hS24 : Below w19.heap.size w19 w24 := hS23.trans (hb24.mono hS23.size)
            have hf24 := fun W (hb : Below w24.heap.size w24 W) => FF.out W (hS24.trans (hb.mono hS24.size))
            have F24 := Lib.hid hf24
            clear hf24
            refine hK (fun W => Below w24.heap.size w24 W) _ _ (fun W h => hb24.trans (h.mono hb24.size)) (Below.refl _ _) ?_
            clear hK K
            try simp only [Act.put, List.setIfInBounds_toArray, List.set_cons_zero, List.set_cons_succ]
            repeat (first
              | (refine wpS_take (v := ?_) rfl rfl (by rfl) ?_ ?_; rotate_left; (intro W hW; have hf := F24.out W hW; go_split_ands; go_simp; try with_reducible rfl); try simp only [Act.put, List.setIfInBounds_toArray, List.set_cons_zero, List.set_cons_succ])
              | (refine wpS_skip rfl rfl (by rfl) ?_; try simp only [Act.put, List.setIfInBounds_toArray, List.set_cons_zero, List.set_cons_succ]))
            refine wpS_last rfl (by rfl) (fun K hK => ?_)
            go_simp
            refine hK _ _ ?_
            clear hK K
            try simp only [Act.put, List.setIfInBounds_toArray, List.set_cons_zero, List.set_cons_succ]
            refine wpS_nil ?_
            have SVA24 := Lib.hid (SVA.out.below hS24)
            have SVB24 := Lib.hid (SVB.out.below hS24)
            clear hS24 hb24 hS23 hb23 hS22 hb22 hS21 hb21 hS20 hS F20 F22 F24
            by_cases h3 : i % 3 = 2
            · have h3d : ((i : Int) % 3 == 2) = true := by simp; omega
              go_wp2_with fail
              go_roundg (12 - (i + 1))
              case measure => have := Hm.out; omega
              case rel => exact ⟨i + 1, k', K', D', y2, rfl, by omega, rfl, rfl, by go_num, SVB24.out, K17.out.1, OO2.out, by have := K17.out.2; omega⟩
            · have h3d : ((i : Int) % 3 == 2) = false := by simp; omega
              go_wp2_with fail
              go_roundg (12 - (i + 1))
              case measure => have := Hm.out; omega
              case rel => exact ⟨i + 1, kb, K', D', y2, rfl, by omega, rfl, rfl, by go_num, SVA24.out, K17.out.1, OO2.out, by have := K17.out.2; omega⟩
      · have hd83 : decide (i < n1 ∧ i < 12) = false := by simpa using hlt
        rw [hd83]
        have Hs := Lib.hid (Hsure.out _ SV.out.1.be)
        have BE := Lib.hid SV.out.1.be
        clear hd83
        go_wp2_with fail
        refine Hs.out.mono ?_
        rintro e w10 ⟨rfl, hb10⟩
        have B10 := Lib.hid (BE.out.trans (hb10.mono BE.out.size))
        clear hb10
        go_wp2_with fail
        go_ret
        exact ⟨rfl, B10.out⟩
  · have hop := kopen_no A6 n0 c6 l0 w6 (Rd.of_own O6.out.1) (by omega) (by simpa using hm) (g := g) trivial
    have Hop := Lib.hid hop
    clear hop
    go_wp2_with fail
    refine Hop.out.mono ?_
    rintro e w7 ⟨rfl, hb7⟩
    have B7 := Lib.hid (B6.out.trans (hb7.mono B6.out.size))
    have how2 := lown_any A0 n0 c0 l0 w7 (R0.out.below B7.out) (by omega)
    have How2 := Lib.hid how2
    clear how2 hb7
    go_wp2_with fail
    refine How2.out.mono ?_
    rintro e w8 ⟨A8, c8, rfl, own8, hb8⟩
    have B8 := Lib.hid (B7.out.trans (hb8.mono B7.out.size))
    have hc8 := Hck.out w8 B8.out A8 c8 (Rd.of_own own8).any
    rw [show cmay l0 = false by simpa using hm] at hc8
    have Hc8 := Lib.hid hc8
    clear hc8 own8 hb8
    go_wp2_with fail
    refine Hc8.out.mono ?_
    rintro e w9 ⟨rfl, hw⟩
    subst hw
    rw [if_neg (by simp)]
    have hn9 := Hnum.out 1 _ B8.out
    rw [show errD 1 = .iface 69 (.int .i64 1) from rfl] at hn9
    have Hn9 := Lib.hid hn9
    clear hn9
    go_wp2_with fail
    refine Hn9.out.mono ?_
    rintro e w10 ⟨rfl, hb10⟩
    have B10 := Lib.hid (B8.out.trans (hb10.mono B8.out.size))
    have Hs := Lib.hid (Hsure.out _ B10.out)
    clear hb10
    go_wp2_with fail
    refine Hs.out.mono ?_
    rintro e w11 ⟨rfl, hb11⟩
    have B11 := Lib.hid (B10.out.trans (hb11.mono B10.out.size))
    go_wp2_with fail
    go_ret
    exact ⟨rfl, B11.out⟩
end Go.Proofs.YtlecglmiigdjlaaGreatDoor
