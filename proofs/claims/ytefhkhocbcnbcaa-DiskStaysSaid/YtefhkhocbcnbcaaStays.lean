/- The law DiskStays, walked. -/
import Derived.Test.YtefhkhocbcnbcaaStayI
import Derived.Test.YtefhkhocbcnbcaaStill
import Derived.BigQuiet
import Derived.Deep.QuietTactic
namespace Go.Proofs.Ytefhkhocbcnbcaa
open Go.RowKit
set_option maxRecDepth 100000
set_option linter.unusedVariables false
set_option linter.unusedSimpArgs false
section
variable {P : Program} {ops : Array Oper} {Q : Exit → Act → World → Prop} {md : Region.Mode}
theorem hand_take {i d : Nat} {oi : Oper} {v : Value} {fuel : Nat} {listed : Array Bool} {a : Act} {w : World} (hi : ops[i]? = some oi)
    (hs : Region.noSelect ops = true) (hf : Region.free md ops listed i = true) (hr : (Region.ready md ops listed).contains i = true)
    (hQ : ∀ c a w, Q (.panic c) (a.put oi.dst v) w → Q (.panic c) a w) (hd : oi.dst = some d) (hw : Region.wanted oi (yielded ops a.tmps) = true) (hy : ∀ w, (execOp a.eval oi).run P w = .ok (.value v) w)
    (h : wpAny P md ops Q fuel (listed.setIfInBounds i true) (a.put (some d) v) w) : wpAny P md ops Q (fuel + 1) listed a w :=
  wpAny_take hi hs hf hr hQ (Or.inl ⟨hw, hy⟩) (by rw [hd]; exact h)
theorem hand_skip {i d : Nat} {oi : Oper} {fuel : Nat} {listed : Array Bool} {a : Act} {w : World} (hi : ops[i]? = some oi)
    (hs : Region.noSelect ops = true) (hf : Region.free md ops listed i = true) (hr : (Region.ready md ops listed).contains i = true)
    (hQ : ∀ c a w, Q (.panic c) (a.put oi.dst undef) w → Q (.panic c) a w) (hd : oi.dst = some d) (hw : Region.wanted oi (yielded ops a.tmps) = false)
    (h : wpAny P md ops Q fuel (listed.setIfInBounds i true) (a.put (some d) undef) w) : wpAny P md ops Q (fuel + 1) listed a w :=
  wpAny_take hi hs hf hr hQ (Or.inr ⟨hw, rfl⟩) (by rw [hd]; exact h)
end
set_option maxHeartbeats 6400000 in
theorem stays_walk (A : Option Addr) (n c : Nat) (L : List Ac) (B : Option Addr) (nb cb : Nat) (M : List Ac) (K : Option Addr) (kn kc : Nat) (keep : List Int) (w : World) (hr : Rd w T 5 A n (flat acell L)) (hd : ∀ y ∈ L, AcOk w y) (hrb : Rd w T 5 B nb (flat acell M)) (hdb : ∀ y ∈ M, AcOk w y) (hk : Rd w T 1 K kn (ii keep)) (hki : ∀ z ∈ keep, I64 z) (hkn : kn * 8 ≤ 140737488351232) :
    Calls Try.prog 4 #[.slice A n c, .slice B nb cb, .slice K kn kc] w (YesPost w) := by
  have hnew : Calls Try.prog 5 #[.int .i64 60] w (NewPost w 60) := new_any 60 (by omega) (by omega) w
  have Hr := Lib.hid hr
  have Hd := Lib.hid hd
  have Hrb := Lib.hid hrb
  have Hdb := Lib.hid hdb
  have Hk := Lib.hid hk
  have Hki := Lib.hid hki
  have Hkn := Lib.hid hkn
  clear hr hd hrb hdb hk hki hkn
  go_enter Try.func4, Try.ntmps4
  go_wp2_with fail
  refine hnew.mono ?_
  rintro e w1 ⟨U, g, rfl, hx, hU, hb1⟩
  have hi0 : QuI w 0 g w1 := ⟨⟨U, _, hx, quiet_new, Nat.le_refl _, hU⟩, hb1⟩
  have Hi0 := Lib.hid hi0
  clear hx hU hb1 hi0 hnew
  go_wp2_with fail
  go_loopg [9] 20 (fun m s9 wr => ∃ i, m = 20 - i ∧ i ≤ 20 ∧ s9 = .int .i64 (i : Nat) ∧ QuI w i g wr)
  case atStart => exact ⟨0, by omega, by omega, rfl, Hi0.out⟩
  case round =>
    obtain ⟨i, hm, hi, rfl, hq⟩ := hrel
    have Hm := Lib.hid hm
    have Hq := Lib.hid hq
    clear hm hq
    obtain ⟨wq, rfl⟩ : ∃ wq, wq = wr := ⟨_, rfl⟩
    go_upto_region 5 with (fail)
    go_cut [37] (fun s37 W => s37 = .bool (decide (i < n ∧ i < 20)) ∧ W = wq)
    case first =>
      by_cases h1 : i < n
      · have h1I : (i : Int) < n := by omega
        by_cases h2 : i < 20
        · have h2I : (i : Int) < 20 := by omega
          go_wp2_with fail
          go_meet
          case rel => exact ⟨by simp [h1, h2], rfl⟩
        · have h2d : decide ((i : Int) < 20) = false := by simp; omega
          go_wp2_with fail
          go_meet
          case rel => exact ⟨by simp [h1, h2], rfl⟩
      · have h1d : decide ((i : Int) < n) = false := by simp; omega
        go_wp2_with fail
        go_meet
        case rel => exact ⟨by simp [h1], rfl⟩
    case rest =>
    obtain ⟨rfl, rfl⟩ := hcut
    by_cases hlt : i < n ∧ i < 20
    · have hd37 : decide (i < n ∧ i < 20) = true := by simp [hlt]
      rw [hd37]
      obtain ⟨hin, hi20⟩ := hlt
      obtain ⟨b, o, x, rfl, _, hbl, hx, c0, c1, c2, c3, c4⟩ := ac_cells (Hr.out.below Hq.out.be) hin
      have hinI : (i : Int) < n := by omega
      have hi20I : (i : Int) < 20 := by omega
      have h0i : (0 : Int) ≤ i := by omega
      have hw := qu_write (Hq.out.below (Below.refl _ _).drew) (Hd.out x (List.mem_of_getElem? hx)) (by omega)
      have Hw := Lib.hid hw
      clear hw hx c0 c2 c4
      go_wp2_with fail
      go_still_tail 11, (by kernel_rfl)
      change wpList _ _ _ _ _ (World.drew _)
      go_wp2_with fail
      refine Hw.out.mono ?_
      rintro e w2 ⟨⟨k, rfl⟩, hq2⟩
      have Hq2 := Lib.hid hq2
      clear hq2 c1 c3
      go_wp2_with fail
      go_roundg (20 - (i + 1))
      case measure => have := Hm.out; omega
      case rel => exact ⟨i + 1, rfl, by omega, by go_num, Hq2.out⟩
    · have hd37 : decide (i < n ∧ i < 20) = false := by simp only [hlt]; rfl
      rw [hd37]
      have hsy := qu_sync Hq.out (by omega)
      have Hsy := Lib.hid hsy
      clear hsy hlt
      go_wp2_with fail
      refine Hsy.out.mono ?_
      rintro e w2 ⟨rfl, S, hS, hs2⟩
      have hwt := sy_waits hs2
      have Hwt := Lib.hid hwt
      have Hs2 := Lib.hid hs2
      clear hwt hs2
      go_wp2_with fail
      refine Hwt.out.mono ?_
      rintro e w3 ⟨rfl, hb3⟩
      have hs3 := Hs2.out.below hb3
      have hrd := sy_read hs3
      have Hrd := Lib.hid hrd
      have Hs3 := Lib.hid hs3
      clear hrd hs3 hb3
      go_wp2_with fail
      refine Hrd.out.mono ?_
      rintro e w4 ⟨As, cs, rfl, r4, hb4⟩
      have hst := stay_begin Hs3.out hb4 r4
      have Hst := Lib.hid hst
      clear hst r4 hb4
      go_upto_region 12 with (fail)
      go_cut [13] (fun s13 W => s13 = .int .i64 0 ∧ W = w4.alloc (.cells (bools (List.replicate 60 false)) 42))
      case first =>
        go_wp2_with fail
        go_meet
        case rel => exact ⟨rfl, rfl⟩
      case rest =>
      obtain ⟨rfl, hWc⟩ := hcut
      rw [← hWc] at Hst
      obtain ⟨V, hV⟩ : ∃ V, V = w4.heap.size := ⟨_, rfl⟩
      rw [← hV] at Hst ⊢
      clear hWc hV
      go_wp2_with fail
      go_loopg [13] 20 (fun m s13 wr => ∃ j ws, m = 20 - j ∧ j ≤ 20 ∧ s13 = .int .i64 (j : Nat) ∧ StayI w wr S V g j ws As)
      case atStart => exact ⟨0, _, by omega, by omega, rfl, Hst.out⟩
      case round =>
        obtain ⟨j, ws, hm, hj, rfl, hst⟩ := hrel
        have Hm2 := Lib.hid hm
        have Hst2 := Lib.hid hst
        clear hm hst
        obtain ⟨wq, rfl⟩ : ∃ wq, wq = wr := ⟨_, rfl⟩
        go_upto_region 13 with (fail)
        go_cut [72] (fun s72 W => s72 = .bool (decide (j < nb ∧ j < 20)) ∧ W = wq)
        case first =>
          by_cases h1 : j < nb
          · have h1I : (j : Int) < nb := by omega
            by_cases h2 : j < 20
            · have h2I : (j : Int) < 20 := by omega
              go_wp2_with fail
              go_meet
              case rel => exact ⟨by simp [h1, h2], rfl⟩
            · have h2d : decide ((j : Int) < 20) = false := by simp; omega
              go_wp2_with fail
              go_meet
              case rel => exact ⟨by simp [h1, h2], rfl⟩
          · have h1d : decide ((j : Int) < nb) = false := by simp; omega
            go_wp2_with fail
            go_meet
            case rel => exact ⟨by simp [h1], rfl⟩
        case rest =>
        obtain ⟨rfl, rfl⟩ := hcut
        by_cases hlt : j < nb ∧ j < 20
        · have hd72 : decide (j < nb ∧ j < 20) = true := by simp [hlt]
          rw [hd72]
          obtain ⟨hjn, hj20⟩ := hlt
          obtain ⟨b, o, x, rfl, _, hbl, hx, c0, c1, c2, c3, c4⟩ := ac_cells (Hrb.out.below Hst2.out.be) hjn
          have hjnI : (j : Int) < nb := by omega
          have hj20I : (j : Int) < 20 := by omega
          have h0j : (0 : Int) ≤ j := by omega
          have hok := Hdb.out x (List.mem_of_getElem? hx)
          have hw := stay_write (Hst2.out.below (Below.refl _ _).drew) hok (by omega)
          have hxl := hok.1.1.blen
          have hkeep : ∀ w', Below w.heap.size w w' → w'.cell? ⟨b, o + j * 5 + 1, none⟩ = some (.int .i64 x.b) ∧ w'.cell? ⟨b, o + j * 5 + 3, none⟩ = some (.slice x.A x.n x.m) := fun w' hb => by
            obtain ⟨b', o', x', e, _, _, hx', _, d1, _, d3, _⟩ := ac_cells (Hrb.out.below hb) hjn
            injection e with e
            injection e with e1 e2 _
            subst e1 e2
            obtain rfl : x = x' := Option.some.inj (hx.symm.trans hx')
            exact ⟨d1, d3⟩
          have hxm := hok.1.2
          have hm63 := max_i64
          have hn63 : x.n ≤ 9223372036854775807 := by omega
          have Hw := Lib.hid hw
          have Hok := Lib.hid hok
          have Hxl := Lib.hid hxl
          have Hkeep := Lib.hid hkeep
          clear hw hok hxl hkeep hx c0 c2 c4 hxm hm63
          go_upto_region 15 with (fail)
          go_still_tail 11, (by kernel_rfl)
          change wpList _ _ _ _ _ (World.drew _)
          go_wp2_with fail
          refine Hw.out.mono ?_
          rintro e w2 (⟨p, hp, rfl, hp2⟩ | ⟨k, hk, rfl, hs2⟩)
          · obtain ⟨d1, d3⟩ := Hkeep.out w2 hp2.be
            rw [hp] at d1
            have d1d : w2.drew.cell? ⟨b, o + j * 5 + 1, none⟩ = some (.int .i64 (p : Int)) := d1
            have d3d : w2.drew.cell? ⟨b, o + j * 5 + 3, none⟩ = some (.slice x.A x.n x.m) := d3
            have hfit := hp2.fit
            have hxl := Hxl.out
            have hrd := stayP_read (hp2.below (Below.refl _ _).drew) Hxl.out
            have Hrd := Lib.hid hrd
            have Hp2 := Lib.hid hp2
            have Hp := Lib.hid hp
            clear hrd hp2 hp c1 c3
            go_wp2_with fail
            refine wp_region_reads_then 12 (by kernel_rfl) (by kernel_rfl) ?_
            simp only [List.take_succ_cons, List.take_zero]
            repeat still_step
            refine wpStill_nil ?_
            show wpAny _ _ _ _ 6 _ _ _
            refine wpAny_ready (rs := [12]) (by kernel_rfl) (by simp) ?_
            refine AllReady.cons rfl (fun K hK => ?_) AllReady.nil
            go_simp
            go_at_call 10
            refine Hrd.out.mono ?_
            rintro e w3 ⟨A3, c3, rfl, r3, hb3⟩
            refine hK _ _ ?_
            clear hK K
            try simp only [Act.put, List.setIfInBounds_toArray, List.set_cons_zero, List.set_cons_succ]
            refine hand_take (i := 13) (d := 88) (v := ?_) rfl (by kernel_rfl) (by kernel_rfl) (by kernel_rfl) (fun _ _ _ h => h) (by kernel_rfl) (by rfl) ?_ ?_
            rotate_left
            · intro w
              go_simp
              try with_reducible rfl
            try simp only [Act.put, List.setIfInBounds_toArray, List.set_cons_zero, List.set_cons_succ]
            refine hand_take (i := 14) (d := 102) (v := ?_) rfl (by kernel_rfl) (by kernel_rfl) (by kernel_rfl) (fun _ _ _ h => h) (by kernel_rfl) (by rfl) ?_ ?_
            rotate_left
            · intro w
              go_simp
              try with_reducible rfl
            try simp only [Act.put, List.setIfInBounds_toArray, List.set_cons_zero, List.set_cons_succ]
            refine hand_take (i := 15) (d := 103) (v := ?_) rfl (by kernel_rfl) (by kernel_rfl) (by kernel_rfl) (fun _ _ _ h => h) (by kernel_rfl) (by rfl) ?_ ?_
            rotate_left
            · intro w
              go_simp
              try with_reducible rfl
            try simp only [Act.put, List.setIfInBounds_toArray, List.set_cons_zero, List.set_cons_succ]
            refine hand_take (i := 16) (d := 14) (v := ?_) rfl (by kernel_rfl) (by kernel_rfl) (by kernel_rfl) (fun _ _ _ h => h) (by kernel_rfl) (by rfl) ?_ ?_
            rotate_left
            · intro w
              go_simp
              try with_reducible rfl
            try simp only [Act.put, List.setIfInBounds_toArray, List.set_cons_zero, List.set_cons_succ]
            refine hand_take (i := 17) (d := 15) (v := ?_) rfl (by kernel_rfl) (by kernel_rfl) (by kernel_rfl) (fun _ _ _ h => h) (by kernel_rfl) (by rfl) ?_ ?_
            rotate_left
            · intro w
              go_simp
              try with_reducible rfl
            try simp only [Act.put, List.setIfInBounds_toArray, List.set_cons_zero, List.set_cons_succ]
            refine wpAny_done (by kernel_rfl) ?_ _
            have hp3 := (Hp2.out.below (Below.refl _ _).drew).below hb3
            obtain ⟨f1, f3⟩ := Hkeep.out w3 hp3.be
            rw [Hp.out] at f1
            have r3x := rd_args (U := fun _ => False) Hok.out hp3.be (fun _ h => h.elim)
            have q1 := conv_bytes (P := Try.prog) (c := c3) 29 9 5 Try.underlying29 Try.underlying5 Try.underlying9 r3
            have q2 := conv_bytes (P := Try.prog) (c := x.m) 29 9 5 Try.underlying29 Try.underlying5 Try.underlying9 r3x
            have q1n := fun k => conv_bytes (P := Try.prog) (c := c3) 29 9 5 Try.underlying29 Try.underlying5 Try.underlying9 (r3.drewN k)
            have q2n := fun k => conv_bytes (P := Try.prog) (c := x.m) 29 9 5 Try.underlying29 Try.underlying5 Try.underlying9 (r3x.drewN k)
            have Hp3 := Lib.hid hp3
            have R3 := Lib.hid r3
            clear hp3 r3 r3x hb3 d1 d3 d1d d3d
            go_wp2_with fail
            go_quiet (fail)
            clear q1 q2 q1n q2n
            go_wp2_with fail
            go_loopg [16] x.n (fun m s16 w4 => ∃ k, m = x.n - k ∧ k ≤ x.n ∧ s16 = .int .i64 (k : Nat) ∧ StayP w w4 S V g j ws As p x.d k)
            case atStart => exact ⟨0, by omega, by omega, rfl, Hp3.out.below (below_drewN (Below.refl _ _) _)⟩
            case round =>
              obtain ⟨k, hm, hk, rfl, hp4⟩ := hrel
              obtain ⟨w4, rfl⟩ : ∃ w4, w4 = wr := ⟨_, rfl⟩
              obtain ⟨f1, f3⟩ := Hkeep.out w4 hp4.be
              rw [Hp.out] at f1
              have Hm3 := Lib.hid hm
              by_cases hkn : k < x.n
              · have hkI : (k : Int) < x.n := by omega
                have h0k : (0 : Int) ≤ k := by omega
                have hpk : p + k < 60 := by omega
                have hpkI : (p : Int) + k < 60 := by omega
                have wpk : IntKind.i64.wrap ((p : Int) + k) = (p : Int) + k := by rw [IntKind.wrap_i64]; omega
                obtain ⟨bb, v0, v1⟩ := hp4.cell hpk
                have hmark := hp4.mark hpk
                have Hmark := Lib.hid hmark
                clear hm hp4 hmark
                go_wp2_with fail
                go_roundg (x.n - (k + 1))
                case measure => have := Hm3.out; omega
                case rel => exact ⟨k + 1, rfl, by omega, by go_num, Hmark.out⟩
              · obtain rfl : k = x.n := by omega
                rw [← Hxl.out] at hp4
                obtain ⟨ws', hdone⟩ := hp4.done
                have Hdone := Lib.hid hdone
                clear hm hp4 hdone
                go_wp2_with fail
                go_roundg (20 - (j + 1))
                case measure => have := Hm2.out; omega
                case rel => exact ⟨j + 1, ws', rfl, by omega, by go_num, Hdone.out⟩
          · rw [errD_ne hk]
            have Hs2 := Lib.hid hs2.next
            clear hs2 c1 c3
            go_wp2_with fail
            go_roundg (20 - (j + 1))
            case measure => have := Hm2.out; omega
            case rel => exact ⟨j + 1, ws, rfl, by omega, by go_num, Hs2.out⟩
        · have hd72 : decide (j < nb ∧ j < 20) = false := by simp only [hlt]; rfl
          rw [hd72]
          have hst2 := Hst2.out
          have hown := own_any K kn kc keep wc (Hk.out.below hst2.be) Hkn.out
          have hstart := fun w2 (hb : Below wc.heap.size wc w2) A2 c2 (hr : Rd w2 (wc.heap.size ≤ ·) 1 A2 kn (ii keep)) => stay_start (c := c2) hst2 (by omega) hb hr.any Hki.out
          have Hown := Lib.hid hown
          have Hstart := Lib.hid hstart
          clear hst2 hown hstart hlt
          go_wp2_with fail
          refine Hown.out.mono ?_
          rintro e w5 ⟨A5, c5, rfl, r5, hb5⟩
          have hs5 := Hstart.out w5 hb5 A5 c5 r5
          have Hs5 := Lib.hid hs5
          clear hs5 r5 hb5
          go_wp2_with fail
          refine Hs5.out.mono ?_
          rintro e w6 ⟨rfl, now, he6⟩
          have hrd6 := end_read he6
          have Hrd6 := Lib.hid hrd6
          have He6 := Lib.hid he6
          clear hrd6 he6
          go_wp2_with fail
          refine Hrd6.out.mono ?_
          rintro e w7 ⟨A7, c7, rfl, r7, hb7⟩
          have he7 := He6.out.below hb7
          have R7 := Lib.hid r7.any
          have He7 := Lib.hid he7
          clear r7 hb7 he7
          go_wp2_with fail
          go_loopg [19] 60 (fun m s19 w8 => ∃ k, m = 60 - k ∧ k ≤ 60 ∧ s19 = .int .i64 (k : Nat) ∧ Below w7.heap.size w7 w8)
          case atStart => exact ⟨0, by omega, by omega, rfl, Below.refl _ _⟩
          case round =>
            obtain ⟨k, hm, hk, rfl, hb8⟩ := hrel
            obtain ⟨w8, rfl⟩ : ∃ w8, w8 = wr := ⟨_, rfl⟩
            have he8 := He7.out.below hb8
            have r8 := R7.out.below hb8
            have Hm4 := Lib.hid hm
            have Hb8 := Lib.hid hb8
            clear hm hb8
            by_cases hk60 : k < 60
            · have hkI : (k : Int) < 60 := by omega
              have h0k : (0 : Int) ≤ k := by omega
              obtain ⟨bm, om, e1, _, _, hcm⟩ := he8.rs.plain (by omega) (by omega)
              obtain ⟨bn, on, e2, _, _, hcn⟩ := r8.plain (by omega) (by omega)
              subst e1 e2
              have hsl := he8.rs.blen
              have hnl := r8.blen
              obtain ⟨u, hu⟩ : ∃ u : Nat, u = (now.getD k 0).toNat := ⟨_, rfl⟩
              obtain ⟨v, hv⟩ : ∃ v : Nat, v = (S.getD k 0).toNat := ⟨_, rfl⟩
              have d1 : w8.cell? ⟨bn, on + k, none⟩ = some (.int .u8 (u : Int)) := by
                rw [hu]
                refine hcn k _ ?_
                rw [bs_get _ k (by omega), List.getD_eq_getElem?_getD, List.getElem?_eq_getElem (by omega)]
                rfl
              have d2 : w8.cell? ⟨bm, om + k, none⟩ = some (.int .u8 (v : Int)) := by
                rw [hv]
                refine hcm k _ ?_
                rw [bs_get _ k (by omega), List.getD_eq_getElem?_getD, List.getElem?_eq_getElem (by omega)]
                rfl
              have hws : ws[k]? = some (ws[k]'(by rw [he8.len]; exact hk60)) := List.getElem?_eq_getElem _
              have d3 := (he8.bx.c k).trans (bools_get hws)
              obtain ⟨bb, hbb⟩ : ∃ bb, bb = ws[k]'(by rw [he8.len]; exact hk60) := ⟨_, rfl⟩
              rw [← hbb] at hws d3
              have hsame := he8.same k
              have hbe8 := he8.be
              have Hbe8 := Lib.hid hbe8
              clear hcm hcn he8 r8 hbe8 hbb
              cases bb with
              | true =>
                clear hsame hws hu hv
                go_wp2_with fail
                go_quiet (fail)
                go_wp2_with fail
                go_roundg (60 - (k + 1))
                case measure => have := Hm4.out; omega
                case rel => exact ⟨k + 1, rfl, by omega, by go_num, below_drewN Hb8.out _⟩
              | false =>
                have huv : u = v := by
                  rw [hu, hv, List.getD_eq_getElem?_getD, List.getD_eq_getElem?_getD, hsame hws]
                clear hsame hws hu hv
                subst huv
                go_wp2_with fail
                go_quiet (fail)
                go_wp2_with fail
                go_roundg (60 - (k + 1))
                case measure => have := Hm4.out; omega
                case rel => exact ⟨k + 1, rfl, by omega, by go_num, below_drewN Hb8.out _⟩
            · obtain rfl : k = 60 := by omega
              have hsure := sure_any w8
              have Hsure := Lib.hid hsure
              have Hbe8 := Lib.hid he8.be
              clear hsure he8 r8
              go_wp2_with fail
              refine Hsure.out.mono ?_
              rintro e w9 ⟨rfl, hb9⟩
              go_wp2_with fail
              go_ret
              exact ⟨rfl, Hbe8.out.trans (hb9.mono Hbe8.out.size)⟩
end Go.Proofs.Ytefhkhocbcnbcaa
