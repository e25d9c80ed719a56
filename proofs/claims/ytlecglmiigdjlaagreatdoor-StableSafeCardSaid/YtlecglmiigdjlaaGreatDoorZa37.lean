/- Walk: StableSafe. (Printed by mksafe15.py.) -/
import Derived.Test.YtlecglmiigdjlaaGreatDoorZa36
import Derived.Test.YtlecglmiigdjlaaGreatDoorZa29
import Derived.Test.YtlecglmiigdjlaaGreatDoorZa30
import Derived.Test.YtlecglmiigdjlaaGreatDoorZa32
import Derived.Deep.CutBlock
namespace Go.Proofs.YtlecglmiigdjlaaGreatDoor
open Go.RowKit
set_option maxRecDepth 100000
set_option linter.unusedVariables false
set_option linter.unusedSimpArgs false
theorem sv_cells2 {w : World} {ok : Nat → Prop} {n : Nat} {A : Option Addr} {l : List Sv} (h : Rd w ok 7 A n (flat scell l)) {j : Nat} (hj : j < n) : ∃ b o x, A = some ⟨b, o, none⟩ ∧ ok b ∧ b < w.heap.size ∧ l[j]? = some x ∧
    w.cell? ⟨b, o + j * 7, none⟩ = some (.int .i64 x.tm) ∧ w.cell? ⟨b, o + j * 7 + 1, none⟩ = some (.int .i64 x.vt) ∧ w.cell? ⟨b, o + j * 7 + 2, none⟩ = some (.int .i64 x.b) ∧ w.cell? ⟨b, o + j * 7 + 3, none⟩ = some (.int .i64 x.t) ∧ w.cell? ⟨b, o + j * 7 + 4, none⟩ = some (.slice x.A x.n x.c) ∧ w.cell? ⟨b, o + j * 7 + 5, none⟩ = some (.slice x.C x.nc x.cc) ∧ w.cell? ⟨b, o + j * 7 + 6, none⟩ = some (.slice x.S x.ns x.cs) := by
  obtain ⟨b, o, x, hA, hb, hlt, hx, hc⟩ := h.fat scell_len (by omega) hj
  exact ⟨b, o, x, hA, hb, hlt, hx, hc 0 _ rfl, hc 1 _ rfl, hc 2 _ rfl, hc 3 _ rfl, hc 4 _ rfl, hc 5 _ rfl, hc 6 _ rfl⟩
theorem int_at {w : World} {ok : Nat → Prop} {n : Nat} {A : Option Addr} {l : List Int} (h : Rd w ok 1 A n (ii l)) {j : Nat} (hj : j < n) : ∃ b o z, A = some ⟨b, o, none⟩ ∧ b < w.heap.size ∧ w.cell? ⟨b, o + j, none⟩ = some (.int .i64 z) := by
  have hl : l.length = n := ii_len h
  obtain ⟨ad, hA, hok, hc⟩ := h.2 (by omega)
  have hx : l[j]? = some (l[j]'(by omega)) := List.getElem?_eq_getElem (by omega)
  have h1 := hc j _ (by unfold ii; rw [List.getElem?_map, hx]; rfl)
  obtain ⟨b, o, sp⟩ := ad
  obtain rfl : sp = none := by
    have h0 := hc 0 _ (by unfold ii; rw [List.getElem?_map, List.getElem?_eq_getElem (by omega : 0 < l.length)]; rfl)
    exact World.cell?_spot (by simpa [Addr.add] using h0)
  have hadd : ∀ k, (⟨b, o, none⟩ : Addr).add k = ⟨b, o + k, none⟩ := fun k => by unfold Addr.add; split <;> simp_all
  rw [hadd] at h1
  exact ⟨b, o, _, hA, World.block_lt_of_cell? w _ h1, h1⟩
theorem lownw_any (A : Option Addr) (n c : Nat) (l : List Int) (w : World) {ok : Nat → Prop} (hr : Rd w ok 1 A n (ii l)) (hn : n * 8 ≤ 140737488351232) :
    Calls Tryz.prog 13 #[.slice A n c] w (OwnPost w n l) := by
  have Hr := Lib.hid hr
  clear hr
  go_enter Tryz.func13, Tryz.ntmps13
  have hm8 : n ≤ maxLen := by unfold maxLen; omega
  go_wp2_with (at_builtin; refine wpList_append_wide (news := ii l) _ Tryz.underlying22 int_elem rfl (by omega) rfl rfl rfl (World.ownsRow_nil _ w.heap.size 3 1) rfl Hr.out (ii_one l) (by omega) (by omega) (Nat.le_refl _) (Nat.zero_add _) (List.nil_append _) ?_; intro A1 c1 w1 hown1 hg1 hat1)
  go_ret
  exact ⟨A1, c1, rfl, hown1, (Below.refl _ _).grown hg1 (Nat.le_refl _) (by simp)⟩
attribute [local go_sem] fld_tm
set_option maxHeartbeats 12800000 in
theorem safe_walk (A0 : Option Addr) (n0 c0 : Nat) (Ls : List Sv) (A1 : Option Addr) (n1 c1 : Nat) (steps : List Int) (A2 : Option Addr) (n2 c2 : Nat) (keep : List Int) (w : World) (r0 : Rd w T 7 A0 n0 (flat scell Ls)) (hL : ∀ s ∈ Ls, s.At w T ∧ s.I) (r1 : Rd w T 1 A1 n1 (ii steps)) (r2 : Rd w T 1 A2 n2 (ii keep)) (hki : ∀ x ∈ keep, I64 x) (hn2 : n2 * 8 ≤ 140737488351232) (htab : TabW w) (hev : EvW w w.heap.size) (hg : ErrT w) :
    Calls Tryz.prog 5 #[.slice A0 n0 c0, .slice A1 n1 c1, .slice A2 n2 c2] w (YesPost w) := by
  have hsure := fun W (hb : Below w.heap.size w W) => sure_any W (htab.below hb (Nat.le_refl _)) ((hev.below hb (Nat.le_refl _)).mono hb.size)
  have hw0 := hg.lt
  have hnum : ∀ k W, Below w.heap.size w W → Calls Tryz.prog 6 #[errD k] W fun e w' => e = .returned (.int .i64 k) ∧ Below W.heap.size W w' := fun k W hb => num_any k W (hg.under hb hw0)
  have htb := fun W (hb : Below w.heap.size w W) => htab.below hb (Nat.le_refl _)
  have hvb := fun W (hb : Below w.heap.size w W) => (hev.below hb (Nat.le_refl _)).mono hb.size
  have how := fun W (hb : Below w.heap.size w W) => lownw_any A2 n2 c2 keep W (r2.below hb) hn2
  have Hsure := Lib.hid hsure
  have Hnum := Lib.hid hnum
  have Htb := Lib.hid htb
  have Hvb := Lib.hid hvb
  have How := Lib.hid how
  have R0 := Lib.hid r0
  have R1 := Lib.hid r1
  have HK := Lib.hid hki
  have HL := Lib.hid hL
  have hbk := blank_any 1500 (by omega) (by omega) w
  have Hbk := Lib.hid hbk
  clear hsure hnum htb hvb how htab hev hg r0 r1 r2 hL hbk hki hn2
  go_enter Tryz.func5, Tryz.ntmps5
  go_wp2_with fail
  refine Hbk.out.mono ?_
  rintro e w1 ⟨L, g, rfl, hd, hl, hb1⟩
  have H1 := Lib.hid (And.intro hd (And.intro hl hb1))
  clear hd hl hb1
  go_wp2_with fail
  have hb2 : Below w1.heap.size w1 (w1.alloc (.cells #[.int .i64 1, .int .i64 2, .int .i64 3] 3)) := (Below.refl _ _).alloc (Nat.le_refl _) _
  have hb02 := H1.out.2.2.trans (hb2.mono H1.out.2.2.size)
  have rl : Rd (w1.alloc (.cells #[.int .i64 1, .int .i64 2, .int .i64 3] 3)) (fun b => ¬ L b) 1 (some ⟨w1.heap.size, 0, none⟩) 3 (ii [1, 2, 3]) := (show Rd (w1.alloc (.cells #[.int .i64 1, .int .i64 2, .int .i64 3] 3)) (w1.heap.size ≤ ·) 1 (some ⟨w1.heap.size, 0, none⟩) 3 [.int .i64 1, .int .i64 2, .int .i64 3] from Rd.lit rfl).mono fun b hb hL => by have := H1.out.1.lt b hL; have h9 : w1.heap.size ≤ b := hb; omega
  refine (kopen_any (some ⟨w1.heap.size, 0, none⟩) 3 3 [1, 2, 3] _ (H1.out.1.below hb2) rl ⟨by omega, by unfold maxLen; omega⟩ (by rfl) (by omega) rfl (by simp [Dk.make]) (Htb.out _ hb02) (Hvb.out _ hb02) (fb := 0) (by simp)).mono ?_
  intro e w3 hp
  obtain ⟨K1, D1, k, t0, t1, z1, L', rfl, kx, hl', hk0, hk1, hk2, hkp, hi, hn1, hnow, harm⟩ := hp.fresh (by rfl) (by omega)
  have hb3 : Below w.heap.size w w3 := hb02.trans (hkp.under H1.out.2.1 hb02.size)
  have hz2 := hb02.size
  have lo1 : ∀ b, L' b → w.heap.size ≤ b := fun b hb => (hl' b hb).elim (H1.out.2.1 b) fun h => by omega
  have y1 : Sv.At ⟨0, 0, 0, 0, none, 0, 0, [], some ⟨w3.heap.size, 0, none⟩, 3, 3, [1, 2, 3], none, 0, 0, []⟩ (w3.alloc (.cells #[.int .i64 1, .int .i64 2, .int .i64 3] 3)) (w3.heap.size ≤ ·) := ⟨Rd.none_, (fun y hy => by cases hy), (show Rd (w3.alloc (.cells #[.int .i64 1, .int .i64 2, .int .i64 3] 3)) (w3.heap.size ≤ ·) 1 (some ⟨w3.heap.size, 0, none⟩) 3 [.int .i64 1, .int .i64 2, .int .i64 3] from Rd.lit rfl), Rd.none_, ⟨Nat.le_refl _, Nat.zero_le _⟩, ⟨Nat.le_refl _, by unfold maxLen; dsimp only; omega⟩, ⟨Nat.le_refl _, Nat.zero_le _⟩⟩
  have y2 : Sv.Fit ⟨0, 0, 0, 0, none, 0, 0, [], some ⟨w3.heap.size, 0, none⟩, 3, 3, [1, 2, 3], none, 0, 0, []⟩ := ⟨⟨by unfold I64; dsimp only; omega, by unfold I64; dsimp only; omega, by unfold I64; dsimp only; omega, by unfold I64; dsimp only; omega⟩, (fun y hy => by cases hy), ⟨Nat.zero_le _, by dsimp only; omega, Nat.zero_le _⟩⟩
  have hst := SafI.start kx hi (by rw [hn1]; exact Nat.le_refl _) lo1 (by omega) (by omega) (by omega) hb3 y1 y2
  have S0 := Lib.hid hst
  have N0 := Lib.hid (And.intro hn1 hnow)
  have Z3 := Lib.hid hb3.size
  clear y1 y2 hst kx hl' hk0 hk1 hk2 hkp hi hn1 hnow harm hb3 hz2 lo1 hp hb2 hb02 rl
  go_wp2_with fail
  have B9 := Lib.hid S0.out.d.be
  obtain ⟨lb, hlb⟩ : ∃ lb, lb = w3.heap.size := ⟨_, rfl⟩
  obtain ⟨nb, hnb⟩ : ∃ nb, nb = w3.heap.size + 1 := ⟨_, rfl⟩
  rw [← hnb, ← hlb] at S0
  try rw [← hnb]
  have HN := Lib.hid (And.intro hlb hnb)
  go_loopg [8, 11, 12, 13, 14, 15] 14 (fun m s8 s11 s12 s13 s14 s15 wr => ∃ i kb K D y, m = 14 - i ∧ i ≤ 14 ∧ s8 = .pointer (some ⟨kb, 0, none⟩) ∧ s11 = .int .i64 (i : Nat) ∧ SafI w wr g nb lb 1500 kb K D y ∧ y.st = K.now ∧ K.n ≤ 1 + i)
  case atStart =>
    subst hlb hnb
    exact ⟨0, k, K1, D1, ⟨0, 0, 0, 0, none, 0, 0, [], some ⟨w3.heap.size, 0, none⟩, 3, 3, [1, 2, 3], none, 0, 0, []⟩, by omega, by omega, rfl, rfl, S0.out, N0.out.2.symm, by rw [N0.out.1]; omega⟩
  case round =>
    clear hlb hnb
    obtain ⟨i, kb, K, D, y, hm', hi, rfl, rfl, hsv, hyn, hKn⟩ := hrel
    have Hm := Lib.hid hm'
    have SV := Lib.hid (And.intro hsv (And.intro hyn hKn))
    clear hm' hsv hyn hKn S0
    obtain ⟨wa, rfl⟩ : ∃ wa, wa = wr := ⟨_, rfl⟩
    go_upto_region 7 with (fail)
    go_cut [38] (fun s38 W => s38 = .bool (decide (i < n0 ∧ i < 14)) ∧ W = wa)
    case first =>
      by_cases h1 : i < n0
      · have h1I : (i : Int) < n0 := by omega
        by_cases h2 : i < 14
        · have h2I : (i : Int) < 14 := by omega
          go_wp2_with fail
          go_meet
          case rel => exact ⟨by simp [h1, h2], rfl⟩
        · have h2d : decide ((i : Int) < 14) = false := by simp; omega
          go_wp2_with fail
          go_meet
          case rel => exact ⟨by simp [h1, h2], rfl⟩
      · have h1d : decide ((i : Int) < n0) = false := by simp; omega
        go_wp2_with fail
        go_meet
        case rel => exact ⟨by simp [h1], rfl⟩
    case rest =>
    obtain ⟨rfl, rfl⟩ := hcut
    by_cases hlt : i < n0 ∧ i < 14
    · have hd38 : decide (i < n0 ∧ i < 14) = true := by simp [hlt]
      rw [hd38]
      obtain ⟨hin, hi14⟩ := hlt
      obtain ⟨b, o, s, rfl, -, hbl, hs, q0⟩ := sv_cells2 R0.out hin
      have hcl : ∀ W, Below w.heap.size w W → (W.cell? ⟨b, o + i * 7, none⟩ = some (.int .i64 s.tm) ∧ W.cell? ⟨b, o + i * 7 + 1, none⟩ = some (.int .i64 s.vt) ∧ W.cell? ⟨b, o + i * 7 + 2, none⟩ = some (.int .i64 s.b) ∧ W.cell? ⟨b, o + i * 7 + 3, none⟩ = some (.int .i64 s.t) ∧ W.cell? ⟨b, o + i * 7 + 4, none⟩ = some (.slice s.A s.n s.c) ∧ W.cell? ⟨b, o + i * 7 + 5, none⟩ = some (.slice s.C s.nc s.cc) ∧ W.cell? ⟨b, o + i * 7 + 6, none⟩ = some (.slice s.S s.ns s.cs)) := fun W hb =>
        have hc := fun (j : Nat) => hb.cell (p := ⟨b, o + i * 7 + j, none⟩) hbl
        ⟨(hc 0).trans q0.1, (hc 1).trans q0.2.1, (hc 2).trans q0.2.2.1, (hc 3).trans q0.2.2.2.1, (hc 4).trans q0.2.2.2.2.1, (hc 5).trans q0.2.2.2.2.2.1, (hc 6).trans q0.2.2.2.2.2.2⟩
      have Hcl := Lib.hid hcl
      have hsI := HL.out s (List.mem_of_getElem? hs)
      have HsI := Lib.hid hsI
      have hrb : reachBytes = 140737488351232 := rfl
      have hlo := long_any s wc (hsI.1.below SV.out.1.d.be) (fun x hx => by have := (hsI.2.2 x hx).2; omega) (by have := hsI.1.k1; unfold maxLen at this; omega) (by have := hsI.1.k3; unfold maxLen at this; omega) (by have := hsI.1.k2; unfold maxLen at this; omega)
      obtain ⟨lg, hlg⟩ : ∃ lg, longS s = lg := ⟨_, rfl⟩
      rw [hlg] at hlo
      have Hlo := Lib.hid hlo
      have Hlg := Lib.hid hlg
      obtain ⟨c0', c1', c2', c3', c4', c5', c6'⟩ := hcl wc SV.out.1.d.be
      have hinI : (i : Int) < n0 := by omega
      have h0i : (0 : Int) ≤ i := by omega
      clear hcl hsI hlo hlg q0 hs hrb hd38
      unfold Sv.val stA at Hlo
      go_wp2_with fail
      refine Hlo.out.mono ?_
      rintro e w10 ⟨rfl, hb10⟩
      clear c0' c1' c2' c3' c4' c5' c6'
      have SV10 := Lib.hid (SV.out.1.below hb10)
      clear hb10
      cases lg with
      | true =>
        go_wp2_with fail
        go_roundg (14 - (i + 1))
        case measure => have := Hm.out; omega
        case rel => exact ⟨i + 1, kb, K, D, y, rfl, by omega, rfl, by go_num, SV10.out, SV.out.2.1, by have := SV.out.2.2; omega⟩
      | false =>
        have hfit := (HsI.out.1.below SV10.out.d.be).fit_long ⟨HsI.out.2.1, fun y hy => (HsI.out.2.2 y hy).1⟩ Hlg.out
        have hlen := fun n => HsI.out.1.len_long Hlg.out n
        have hri := lright_any s w10 (HsI.out.1.below SV10.out.d.be) hfit
        obtain ⟨rt, hrt⟩ : ∃ rt, s.st.may = rt := ⟨_, rfl⟩
        rw [hrt] at hri
        have Fit := Lib.hid hfit
        have Len := Lib.hid hlen
        have Hri := Lib.hid hri
        have RT := Lib.hid hrt
        unfold Sv.val stA at Hri
        clear hfit hlen hri hrt
        obtain ⟨c0', c1', c2', c3', c4', c5', c6'⟩ := Hcl.out w10 SV10.out.d.be
        go_wp2_with fail
        refine Hri.out.mono ?_
        rintro e w11 ⟨rfl, hb11⟩
        have SV11 := Lib.hid (SV10.out.below hb11)
        clear c0' c1' c2' c3' c4' c5' c6' hb11
        cases rt with
        | false =>
          go_wp2_with fail
          go_roundg (14 - (i + 1))
          case measure => have := Hm.out; omega
          case rel => exact ⟨i + 1, kb, K, D, y, rfl, by omega, rfl, by go_num, SV11.out, SV.out.2.1, by have := SV.out.2.2; omega⟩
        | true =>
          go_upto_region 10 with (fail)
          go_cut [69] (fun s69 W => s69 = .bool false ∧ ∃ D', SafI w W g nb lb 1500 kb K D' y)
          case first =>
            by_cases h1 : i < n1
            · have h1I : (i : Int) < n1 := by omega
              obtain ⟨b1, o1, z, rfl, hbl1, q1⟩ := int_at (R1.out.below SV11.out.d.be) h1
              obtain ⟨q, hq3, -, hq1, hq2⟩ := uint_mod z 9 9 rfl (by omega) (by omega)
              have har := SV11.out.arm (n := (q : Int)) (by omega) (by omega)
              have Har := Lib.hid har
              clear har
              go_wp2_with fail
              refine Har.out.mono ?_
              rintro e w12 ⟨rfl, sv⟩
              have SV12 := Lib.hid sv
              clear sv q1
              go_wp2_with fail
              go_meet
              case rel => exact ⟨rfl, _, SV12.out⟩
            · have h1d : decide ((i : Int) < n1) = false := by simp; omega
              go_wp2_with fail
              go_meet
              case rel => exact ⟨rfl, _, SV11.out⟩
          case rest =>
          obtain ⟨rfl, D2, sv12⟩ := hcut
          have SV12 := Lib.hid sv12
          clear sv12 SV11 SV10
          have hgv := giveS_any s wc (HsI.out.1.below SV12.out.d.be) Fit.out
          have Hgv := Lib.hid hgv
          obtain ⟨c0', c1', c2', c3', c4', c5', c6'⟩ := Hcl.out wc SV12.out.d.be
          clear hgv
          unfold Sv.val stA at Hgv
          go_wp2_with fail
          refine Hgv.out.mono ?_
          rintro e w13 ⟨s', rfl, at', st', fit', hb13⟩
          clear c0' c1' c2' c3' c4' c5' c6'
          have hsave := SV12.out.saveA s' hb13 at' fit' (by rw [st']; exact RT.out) (Htb.out _ (SV12.out.d.be.trans (hb13.mono SV12.out.d.be.size))) (Hvb.out _ (SV12.out.d.be.trans (hb13.mono SV12.out.d.be.size))) (by omega) (by have := SV.out.2.2; omega) (by rw [st']; exact Len.out _)
          rw [st'] at hsave
          have Hsave := Lib.hid hsave
          clear hsave at' st' fit' hb13
          go_wp2_with fail
          refine Hsave.out.mono ?_
          intro e w14 hp
          rcases hp with ⟨c, K2, D3, rfl, hc, hoff, hKn2, sv14⟩ | ⟨K2, D3, rfl, hdead, hKn2, hlost, sv14⟩
          · have SV14 := Lib.hid sv14
            have hdn := sv14.d.down
            rw [hoff] at hdn
            have Hdn := Lib.hid hdn
            have KN := Lib.hid hKn2
            clear sv14 hdn hoff hKn2
            rcases hc with ⟨rfl, hc⟩ | ⟨rfl, hc⟩
            · have HC := Lib.hid hc
              clear hc
              rw [show errD 0 = .nilIface from rfl]
              obtain ⟨c0', c1', c2', c3', c4', c5', c6'⟩ := Hcl.out w14 SV14.out.d.be
              obtain ⟨d0', d1', d2', d3', d4', d5', d6'⟩ := Sv.c7 SV14.out.d.bx
              have fk := SV14.out.d.bx.f
              have g0' := fk 0
              have g1' := fk 1
              have g2' := fk 2
              have g3' := fk 3
              have g4' := fk 4
              have g5' := fk 5
              have g6' := fk 6
              clear fk
              have hsp := SV14.out.put HsI.out.1 Fit.out
              have Hdn2 := Lib.hid hsp.d.down
              have Sp := Lib.hid hsp
              clear hsp Hdn
              go_wp2_with fail
              refine Hdn2.out.mono ?_
              rintro e w15 ⟨rfl, hw⟩
              subst hw
              rw [show D3.off = false from Sp.out.inv.calm.off]
              clear c0' c1' c2' c3' c4' c5' c6' d0' d1' d2' d3' d4' d5' d6' g0' g1' g2' g3' g4' g5' g6'
              go_wp2_with fail
              go_roundg (14 - (i + 1))
              case measure => have := Hm.out; omega
              case rel => exact ⟨i + 1, kb, K2, D3, s, rfl, by omega, rfl, by go_num, Sp.out, HC.out.symm, by have := SV.out.2.2; have := KN.out; omega⟩
            · have HC := Lib.hid hc
              clear hc
              have hn := Hnum.out 10 w14 SV14.out.d.be
              rw [show errD 10 = .iface 69 (.int .i64 10) from rfl] at hn ⊢
              have Hn := Lib.hid hn
              clear hn
              go_wp2_with fail
              refine Hdn.out.mono ?_
              rintro e w15 ⟨rfl, hw⟩
              have hw' := hw.symm
              clear hw
              subst hw'
              go_wp2_with fail
              refine Hn.out.mono ?_
              rintro e w16 ⟨rfl, hb16⟩
              have SV16 := Lib.hid (SV14.out.below hb16)
              clear hb16
              go_wp2_with fail
              go_roundg (14 - (i + 1))
              case measure => have := Hm.out; omega
              case rel => exact ⟨i + 1, kb, K2, D3, y, rfl, by omega, rfl, by go_num, SV16.out, SV.out.2.1.trans HC.out.symm, by have := SV.out.2.2; have := KN.out; omega⟩
          · have SV14 := Lib.hid sv14
            have hdn := sv14.down
            rw [hlost.off] at hdn
            have Hdn := Lib.hid hdn
            have KN := Lib.hid (And.intro hKn2 hdead)
            have LS := Lib.hid hlost
            clear sv14 hdn hKn2 hlost hdead
            have hn := Hnum.out 13 w14 SV14.out.be
            rw [show errD 13 = .iface 69 (.int .i64 13) from rfl] at hn ⊢
            have Hn := Lib.hid hn
            clear hn
            go_wp2_with fail
            refine Hdn.out.mono ?_
            rintro e w15 ⟨rfl, hw⟩
            have hw' := hw.symm
            clear hw
            subst hw'
            go_wp2_with fail
            refine Hn.out.mono ?_
            rintro e w16 ⟨rfl, hb16⟩
            have SV16 := Lib.hid (SV14.out.below hb16)
            clear hb16
            have hgv := giveS_any s w16 (HsI.out.1.below SV16.out.be) Fit.out
            have Hgv2 := Lib.hid hgv
            obtain ⟨c0', c1', c2', c3', c4', c5', c6'⟩ := Hcl.out w16 SV16.out.be
            clear hgv
            unfold Sv.val stA at Hgv2
            go_wp2_with fail
            refine Hgv2.out.mono ?_
            rintro e w17 ⟨s2, rfl, at2, st2, fit2, hb17⟩
            clear c0' c1' c2' c3' c4' c5' c6'
            have hsave := SV16.out.save13 KN.out.2 s2 hb17 at2 fit2 (Htb.out _ (SV16.out.be.trans (hb17.mono SV16.out.be.size))) (Hvb.out _ (SV16.out.be.trans (hb17.mono SV16.out.be.size))) KN.out.1 (by have := LS.out.q; omega)
            have Hsave2 := Lib.hid hsave
            clear hsave at2 st2 fit2 hb17
            go_wp2_with fail
            refine Hsave2.out.mono ?_
            rintro e w18 ⟨rfl, sv18⟩
            have SV18 := Lib.hid sv18
            clear sv18
            have hn := Hnum.out 13 w18 SV18.out.be
            rw [show errD 13 = .iface 69 (.int .i64 13) from rfl] at hn ⊢
            have Hn2 := Lib.hid hn
            clear hn
            go_wp2_with fail
            refine Hn2.out.mono ?_
            rintro e w19 ⟨rfl, hb19⟩
            have SV19 := Lib.hid (SV18.out.below hb19)
            clear hb19
            have how := How.out w19 SV19.out.be
            have How2 := Lib.hid how
            clear how
            go_wp2_with fail
            refine How2.out.mono ?_
            rintro e w20 ⟨A20, c20, rfl, own20, hb20⟩
            have hst := SV19.out.start A20 n2 c20 keep hb20 (Rd.of_own own20).any HK.out (by have := LS.out.q; omega)
            have Hst := Lib.hid hst
            clear hst own20 hb20
            go_wp2_with fail
            refine Hst.out.mono ?_
            rintro e w21 ⟨rfl, sv21⟩
            have SV21 := Lib.hid sv21
            clear sv21
            obtain ⟨K3, hi3, hk3⟩ := LS.out.st keep
            have I3 := Lib.hid (And.intro hi3 hk3)
            clear hi3 hk3
            have n3 : 1 ≤ K3.n := by have := SV12.out.n1; rcases I3.out.2 with ⟨h, _⟩ | ⟨h, _⟩ <;> omega
            go_wp2_with fail
            have hal : Below w21.heap.size w21 (w21.alloc (.cells #[.int .i64 1, .int .i64 2, .int .i64 3] 3)) := (Below.refl _ _).alloc (Nat.le_refl _) _
            have hb21 : Below w.heap.size w (w21.alloc (.cells #[.int .i64 1, .int .i64 2, .int .i64 3] 3)) := SV21.out.be.trans (hal.mono SV21.out.be.size)
            have hrl : Rd (w21.alloc (.cells #[.int .i64 1, .int .i64 2, .int .i64 3] 3)) (w21.heap.size ≤ ·) 1 (some ⟨w21.heap.size, 0, none⟩) 3 (ii [1, 2, 3]) := (show Rd (w21.alloc (.cells #[.int .i64 1, .int .i64 2, .int .i64 3] 3)) (w21.heap.size ≤ ·) 1 (some ⟨w21.heap.size, 0, none⟩) 3 [.int .i64 1, .int .i64 2, .int .i64 3] from Rd.lit rfl)
            have hag := SV21.out.again I3.out.1 n3 (some ⟨w21.heap.size, 0, none⟩) 3 3 [1, 2, 3] hal hrl ⟨by omega, by unfold maxLen; omega⟩ (by rfl) (Htb.out _ hb21) (Hvb.out _ hb21) (by omega)
            have Hag := Lib.hid hag
            clear hal hb21 hrl hag n3
            refine Hag.out.mono ?_
            rintro e w22 ⟨k', rfl, sv22⟩
            have SV22 := Lib.hid sv22
            have hld := sv22.load
            have Hld := Lib.hid hld
            clear sv22 hld
            go_wp2_with fail
            refine Hld.out.mono ?_
            rintro e w23 ⟨s23, rfl, a23, e23, f23, hb23⟩
            have hcu := (SV22.out.inv.cur SV22.out.n1).1
            have hmy : y.st.may = true := by rw [SV.out.2.1]; exact (SV12.out.inv.cur SV12.out.n1).1
            have hal23 : Below w23.heap.size w23 (w23.alloc (.cells s23.cells 35)) := (Below.refl _ _).alloc (Nat.le_refl _) _
            have sv23 := (SV22.out.below hb23).below hal23
            have a23' := a23.below hal23
            have bx23 : Bx (w23.alloc (.cells s23.cells 35)) w23.heap.size s23.cells := Bx.new _ _ _ rfl
            obtain ⟨rs, hrs⟩ : ∃ rs : Bool, rs = true ↔ s23.st = y.st := by
              by_cases h : s23.st = y.st
              · exact ⟨true, by simp [h]⟩
              · exact ⟨false, by simp [h]⟩
            have hsm := sameS_any s23 y _ a23' sv23.d.y1 f23 sv23.d.y2 (by rw [e23]; exact hcu) hmy (Htb.out _ sv23.d.be) rs hrs
            have SV23 := Lib.hid sv23
            have Hsm := Lib.hid hsm
            have A23 := Lib.hid (And.intro a23' (And.intro e23 (And.intro f23 (And.intro hcu hrs))))
            have BX := Lib.hid bx23
            have HB23 := Lib.hid hb23.size
            clear a23 a23' sv23 bx23 hsm hal23 hb23 hcu hmy hrs e23 f23
            obtain ⟨W23, hW23⟩ : ∃ W23, W23 = w23.alloc (.cells s23.cells 35) := ⟨_, rfl⟩
            rw [← hW23] at SV23 Hsm A23 BX
            obtain ⟨e0', e1', e2', e3', e4', e5', e6'⟩ := Sv.c7 BX.out
            obtain ⟨d0', d1', d2', d3', d4', d5', d6'⟩ := Sv.c7 SV23.out.d.bx
            unfold Sv.cells at hW23
            have HW := Lib.hid hW23
            clear hW23
            unfold Sv.val stA at Hsm
            unfold Sv.val stA
            go_upto_region 25 with (fail)
            rw [← HW.out]
            go_wp2_with fail
            refine Hsm.out.mono ?_
            rintro e w24 ⟨rfl, hb24⟩
            clear e0' e1' e2' e3' e4' e5' e6' d0' d1' d2' d3' d4' d5' d6'
            have SV24 := Lib.hid (SV23.out.below hb24)
            have AA := Lib.hid (A23.out.1.below hb24)
            have BX24 := Lib.hid (BX.out.below hb24)
            clear hb24
            cases rs with
            | true =>
              have hyK : y.st = K3.now := (A23.out.2.2.2.2.1 (by trivial)).symm.trans A23.out.2.1
              have HyK := Lib.hid hyK
              clear hyK
              go_wp2_with fail
              go_roundg (14 - (i + 1))
              case measure => have := Hm.out; omega
              case rel => exact ⟨i + 1, k', K3, _, y, rfl, by omega, rfl, by go_num, SV24.out, HyK.out, by have := SV.out.2.2; rcases I3.out.2 with ⟨h, _⟩ | ⟨h, _⟩ <;> omega⟩
            | false =>
              have hne : ¬ s23.st = y.st := fun h => by have := A23.out.2.2.2.2.2 h; cases this
              have hsK : s.st = K3.now := by
                rcases I3.out.2 with ⟨_, h⟩ | ⟨_, h⟩
                · exact absurd (A23.out.2.1.trans (h.trans SV.out.2.1.symm)) hne
                · exact h.symm
              have HsK := Lib.hid hsK
              have hsm2 := fun W (hb : Below w24.heap.size w24 W) => sameS_yes s23 s W (AA.out.below hb) (HsI.out.1.below (SV24.out.below hb).d.be) A23.out.2.2.1 Fit.out (A23.out.2.1.trans HsK.out.symm) (by rw [A23.out.2.1]; exact A23.out.2.2.2.1) (Htb.out _ (SV24.out.below hb).d.be)
              have Hsm2 := Lib.hid hsm2
              have hff := fun W (hb : Below w24.heap.size w24 W) => And.intro (Sv.c7 (BX24.out.below hb)) (Hcl.out W (SV24.out.below hb).d.be)
              have FF := Lib.hid hff
              unfold Sv.val stA at Hsm2
              clear hne hsK hsm2 hff
              go_upto_region 26 with (fail)
              refine wp_region_S 6 (fun W => Below w24.heap.size w24 W) (.take 0 (.take 1 (.take 2 (.take 3 (.take 4 (.one 5 (.one 6 (.nil)))))))) (by kernel_rfl) (Below.refl _ _).drew (fun _ _ _ _ h => h) (fun hS => ?_)
              repeat (first
                | (refine wpS_take (v := ?_) rfl rfl (by rfl) ?_ ?_; rotate_left; (intro W hW; have hf := FF.out W hW; go_split_ands; go_simp; try with_reducible rfl); try simp only [Act.put, List.setIfInBounds_toArray, List.set_cons_zero, List.set_cons_succ])
                | (refine wpS_skip rfl rfl (by rfl) ?_; try simp only [Act.put, List.setIfInBounds_toArray, List.set_cons_zero, List.set_cons_succ]))
              refine wpS_one rfl (by rfl) (fun K hK => ?_)
              go_simp
              go_at_call 19
              refine (Hsm2.out _ hS).mono ?_
              rintro e w25 ⟨rfl, hb25⟩
              have hS25 : Below w24.heap.size w24 w25 := hS.trans (hb25.mono hS.size)
              refine hK (fun W => Below w25.heap.size w25 W) _ _ (fun W h => hS25.trans (h.mono hS25.size)) (Below.refl _ _) ?_
              clear hK K
              try simp only [Act.put, List.setIfInBounds_toArray, List.set_cons_zero, List.set_cons_succ]
              refine wpS_last rfl (by rfl) (fun K hK => ?_)
              go_simp
              refine hK _ _ ?_
              clear hK K
              try simp only [Act.put, List.setIfInBounds_toArray, List.set_cons_zero, List.set_cons_succ]
              refine wpS_nil ?_
              have SV25 := Lib.hid (SV24.out.below hS25)
              clear hS25 hb25 hS
              obtain ⟨c0', c1', c2', c3', c4', c5', c6'⟩ := Hcl.out w25 SV25.out.d.be
              obtain ⟨d0', d1', d2', d3', d4', d5', d6'⟩ := Sv.c7 SV25.out.d.bx
              have fk := SV25.out.d.bx.f
              have g0' := fk 0
              have g1' := fk 1
              have g2' := fk 2
              have g3' := fk 3
              have g4' := fk 4
              have g5' := fk 5
              have g6' := fk 6
              clear fk
              have hsp := SV25.out.put HsI.out.1 Fit.out
              have Sp := Lib.hid hsp
              clear hsp
              go_wp2_with fail
              go_roundg (14 - (i + 1))
              case measure => have := Hm.out; omega
              case rel => exact ⟨i + 1, k', K3, _, s, rfl, by omega, rfl, by go_num, Sp.out, HsK.out, by have := SV.out.2.2; rcases I3.out.2 with ⟨h, _⟩ | ⟨h, _⟩ <;> omega⟩
    · have hd38 : decide (i < n0 ∧ i < 14) = false := by simpa using hlt
      rw [hd38]
      have Hs := Lib.hid (Hsure.out _ SV.out.1.d.be)
      have BE := Lib.hid SV.out.1.d.be
      clear hd38
      go_wp2_with fail
      refine Hs.out.mono ?_
      rintro e w10 ⟨rfl, hb10⟩
      have B10 := Lib.hid (BE.out.trans (hb10.mono BE.out.size))
      clear hb10
      go_wp2_with fail
      go_ret
      exact ⟨rfl, B10.out⟩
end Go.Proofs.YtlecglmiigdjlaaGreatDoor
