/- Walk of entry.Merge up to its end, whatever the log becomes -/
import Derived.Test.YtmhaahcbmdhinaaGreatDoorZM12
import Derived.Test.YtmhaahcbmdhinaaGreatDoorZM14
import Derived.Test.YtmhaahcbmdhinaaGreatDoorZM13
import Derived.Test.YtmhaahcbmdhinaaGreatDoorZM9
namespace Go.Proofs.YtmhaahcbmdhinaaGreatDoor
open Go.RowKit
set_option maxRecDepth 100000
set_option linter.unusedVariables false
set_option linter.unusedSimpArgs false
attribute [local go_sem ↓] Go.wp_at_zero Go.wp_at_succ
def MergeBackW (W : World) (b t : Int) (l : List En) (e : Ending) (w' : World) : Prop :=
 ∃ A n c L' k, e = .returned (.tuple #[.agg #[.int .i64 b, .int .i64 t, .slice A n c], .int .i64 k, .bool false]) ∧ Rd w' (W.heap.size ≤ ·) 4 A n (flat ecell L') ∧ DatB w' W.heap.size L' ∧ L'.map en = l ∧ (n ≤ c ∧ c ≤ maxLen) ∧ Below W.heap.size W w'
def MergeYes2W (W : World) (b t last : Int) (l : List En) (e : Ending) (w' : World) : Prop :=
 ∃ A n c L', e = .returned (.tuple #[.agg #[.int .i64 b, .int .i64 t, .slice A n c], .int .i64 last, .bool true]) ∧ Rd w' (W.heap.size ≤ ·) 4 A n (flat ecell L') ∧ DatB w' W.heap.size L' ∧ L'.map en = l ∧ (n ≤ c ∧ c ≤ maxLen) ∧ Below W.heap.size W w'
def MergeFinW (W : World) (b t : Int) (l0 : List En) (r : List En × Int) (e : Ending) (w' : World) : Prop :=
 if lmay b t r.1 = true then MergeYes2W W b t r.2 r.1 e w' else MergeBackW W b t l0 e w'
set_option maxHeartbeats 8000000 in
theorem merge_finW (b t ix tm : Int) (A : Option Addr) (n c : Nat) (L : List Er) (M : Option Addr) (nm cm : Nat) (more : List Er) (w : World) (hr : Rd w T 4 A n (flat ecell L)) (hd : Dat w L) (hw : Wel L) (hs : ∀ x ∈ L, x.n ≤ 1000000) (hm : lmay b t (L.map en) = true) (hn : (n : Int) ≤ 4096)
    (gr : Rd w T 4 M nm (flat ecell more)) (gd : Dat w more) (gw : Wel more) (gs : ∀ x ∈ more, x.n ≤ 1000000) (hnm : nm ≤ 1000000) (h1 : 0 ≤ ix) (h2 : rgt ix tm 0 (more.map en) = true) (h3 : ix ≤ lstA b (L.map en)) (h4 : ¬ ((termL b t (L.map en) ix).1 = 0 ∧ b < ix ∧ (termL b t (L.map en) ix).2 ≠ tm)) :
    Calls Tryz.prog 127 #[.agg #[.int .i64 b, .int .i64 t, .slice A n c], .int .i64 ix, .int .i64 tm, .slice M nm cm] w (MergeFinW w b t (L.map en) (mloop b (L.map en, max ix b) (more.map en))) := by
  have hr' := hr.lt (by omega)
  obtain ⟨W0, hW0⟩ : ∃ W0, W0 = (w.alloc (.cells #[.int .i64 b, .int .i64 t, .slice A n c] 38)).alloc (.cells #[.int .i64 0, .int .i64 0, .slice none 0 0] 38) := ⟨_, rfl⟩
  have b0 : Bx W0 w.heap.size #[.int .i64 b, .int .i64 t, .slice A n c] := by subst hW0; exact (Bx.new _ _ _ rfl).alloc _
  have F0 : Fr W0 (w.heap.size + 1) 3 W0 := by subst hW0; exact Fr.new (by simp) rfl
  have r0 : Rd W0 (· < w.heap.size) 4 A n (flat ecell L) := by subst hW0; exact ((hr'.mono fun b hb => hb.2).alloc _).alloc _
  have e0 : Rd W0 (· < w.heap.size) 4 M nm (flat ecell more) := by subst hW0; exact (((gr.lt (by omega)).mono fun b hb => hb.2).alloc _).alloc _
  have d0 : ∀ x ∈ L, Rd W0 (· < w.heap.size) 1 x.A x.n (bs x.d) ∧ x.n ≤ x.m ∧ x.m ≤ maxLen := by
    subst hW0
    exact fun x hx => ⟨(((((hd x hx).1.lt (by omega)).mono fun b hb => hb.2).alloc _).alloc _), (hd x hx).2⟩
  have f0 : ∀ x ∈ more, Rd W0 (· < w.heap.size) 1 x.A x.n (bs x.d) ∧ x.n ≤ x.m ∧ x.m ≤ maxLen := by
    subst hW0
    exact fun x hx => ⟨(((((gd x hx).1.lt (by omega)).mono fun b hb => hb.2).alloc _).alloc _), (gd x hx).2⟩
  have hbe : Below w.heap.size w W0 := by subst hW0; exact ((Below.refl _ _).alloc (Nat.le_refl _) _).alloc (by simp) _
  have hz : W0.heap.size = w.heap.size + 2 := by subst hW0; simp
  have u0 : W0.cell? ⟨w.heap.size, 0, none⟩ = some (.int .i64 b) := b0.c 0
  have u1 : W0.cell? ⟨w.heap.size, 1, none⟩ = some (.int .i64 t) := b0.c 1
  have u2 : W0.cell? ⟨w.heap.size, 2, none⟩ = some (.slice A n c) := b0.c 2
  have sof : ∀ W, Fr W0 (w.heap.size + 1) 3 W → (Fr W0 (w.heap.size + 1) 3 W ∧ W.cell? ⟨w.heap.size, 0, none⟩ = some (.int .i64 b) ∧ W.cell? ⟨w.heap.size, 1, none⟩ = some (.int .i64 t) ∧ W.cell? ⟨w.heap.size, 2, none⟩ = some (.slice A n c)) :=
    fun W F2 => ⟨F2, F2.cell (by omega) u0, F2.cell (by omega) u1, F2.cell (by omega) u2⟩
  have hmm := fun W (h : Fr W0 (w.heap.size + 1) 3 W) => may_any b t A n c L W (h.rd r0 (by omega)) hw (by omega)
  have hlt := fun W (h : Fr W0 (w.heap.size + 1) 3 W) => last_any b t A n c L W (h.rd r0 (by omega)) (by omega)
  have htm := fun W (h : Fr W0 (w.heap.size + 1) 3 W) => term_any b t ix A n c L W (h.rd r0 (by omega)) hm (by omega)
  have hrg := fun W (h : Fr W0 (w.heap.size + 1) 3 W) => right_any ix tm M nm cm more W (h.rd e0 (by omega)) gw hnm
  have how : ∀ W, Fr W0 (w.heap.size + 1) 3 W → Calls Tryz.prog 117 #[.slice A n c] W (fun e w' => ∃ A' c' L', e = .returned (.slice A' n c') ∧ Ro w' W.heap.size A' n c' L' ∧ Same L L' ∧ Below W.heap.size W w' ∧ W0.heap.size ≤ W.heap.size) := fun W h => (owns_any A n c L W (h.rd r0 (by omega)) (fun x hx => ⟨(h.rd (d0 x hx).1 (by omega)).any, (d0 x hx).2⟩) hs (by omega)).mono fun e w' ⟨A', c', L', h1, h2, h3, h4⟩ => ⟨A', c', L', h1, h2, h3, h4, h.gr.size⟩
  have hmr : ∀ W, Fr W0 (w.heap.size + 1) 3 W → Rd W T 4 M nm (flat ecell more) := fun W h => (h.rd e0 (by omega)).any
  have hmd : ∀ W, Fr W0 (w.heap.size + 1) 3 W → ∀ x ∈ more, Rd W (· < w.heap.size) 1 x.A x.n (bs x.d) := fun W h x hx => h.rd (f0 x hx).1 (by omega)
  rw [hm] at hmm
  rw [h2] at hrg
  have hlw : ∀ x ∈ L.map en, I64 x.a ∧ I64 x.b ∧ I64 x.c := fun x hx => by obtain ⟨y, hy, rfl⟩ := List.mem_map.1 hx; exact (hw y hy).1
  have hll := hr.flen ecell_len (by omega)
  have hbb := (lmay_iff.1 hm).1
  have hLE : (L.map en).length = n := by rw [List.length_map, hll]
  have hz3 := lmay_last hm
  rw [hLE] at hz3
  generalize hT : termL b t (L.map en) ix = TR at htm h4
  generalize lstA b (L.map en) = z at hlt h3 hz3
  generalize lstB t (L.map en) = y at hlt
  obtain ⟨RS, hRS⟩ : ∃ RS, mloop b (L.map en, max ix b) (more.map en) = RS := ⟨_, rfl⟩
  rw [hRS]
  obtain ⟨q5, h5⟩ : ∃ q5, lmay b t RS.1 = q5 := ⟨_, rfl⟩
  have HRS := Lib.hid hRS
  have Hmm := Lib.hid hmm
  have Hlt := Lib.hid hlt
  have Htm := Lib.hid htm
  have Hrg := Lib.hid hrg
  have How := Lib.hid how
  have Hmr := Lib.hid hmr
  have Hmd := Lib.hid hmd
  have HW := Lib.hid hW0
  have Hz := Lib.hid hz
  have H4 := Lib.hid h4
  have H5 := Lib.hid h5
  have Hgw := Lib.hid gw
  have Hgs := Lib.hid gs
  have Hlw := Lib.hid hlw
  have Hz3 := Lib.hid hz3
  clear hW0 b0 u0 u1 u2 hr hr' hz r0 d0 e0 f0 hmm hlt htm hrg how hmr hmd hd hs hw hm gr gd gw gs h2 h4 h5 hRS hT hlw hll hLE hz3
  have t1 : decide (ix < 0) = false := decide_eq_false (by omega)
  have t2 : decide (z < ix) = false := decide_eq_false (by omega)
  go_enter Tryz.func127, Tryz.ntmps127
  go_wp2_with fail
  rw [← HW.out]
  refine (Hmm.out _ F0).mono ?_
  rintro e w1 ⟨rfl, hb1⟩
  have F1 := F0.below hb1
  have s1 := sof _ F1
  go_split_ands
  have hw1 : W0.heap.size ≤ w1.heap.size := F1.gr.size
  go_upto_region 3 with (fail)
  go_cut [11] (fun s11 W => ∃ (cB : Nat) (C : Option Addr) (cC : Nat) (cl : List Er), s11 = .pointer (some ⟨cB, 0, none⟩) ∧ Mg W (w.heap.size + 2) cB b t C n cC cl ∧ cl.map en = L.map en ∧ Fr W0 (w.heap.size + 1) 3 W)
  case first =>
    go_region_held3 (fun W => Fr W0 (w.heap.size + 1) 3 W ∧ W.cell? ⟨w.heap.size, 0, none⟩ = some (.int .i64 b) ∧ W.cell? ⟨w.heap.size, 1, none⟩ = some (.int .i64 t) ∧ W.cell? ⟨w.heap.size, 2, none⟩ = some (.slice A n c)) ((refine sof _ ?_; first | exact F1.drew | (go_split_ands; exact Fr.below (by assumption) (by assumption)) | (go_split_ands; exact Fr.alloc (by assumption) _) | (go_split_ands; exact Fr.far (Fr.far (Fr.far (by assumption) hw1 _) hw1 _) hw1 _))) (first
      | (go_at_call 117; refine (How.out _ (by go_split_ands; assumption)).mono ?_; rintro e w4 ⟨A4, c4, L4, rfl, ro4, sm4, hb4, z4⟩; have F4 : Fr W0 (w.heap.size + 1) 3 w4 := Fr.below (by go_split_ands; assumption) hb4; try (have X8 := (Bx.new w1 #[.int .i64 0, .int .i64 0, .slice none 0 0] 38 rfl).drew.below hb4; obtain ⟨x0, x1, x2, y0, y1, y2⟩ := X8.c3)))
    all_goals
      go_wp2_with fail
      go_meet
      case rel =>
        have hz := Hz.out
        have hz1 := hb1.size
        have hz4 := hb4.size
        first
          | (refine ⟨w4.heap.size, A4, c4, L4, rfl, Mg.make (Bx0 := w1.drew.heap.size) (ro4.alloc _) (by show _ ≤ w1.heap.size; omega) (Bx.new w4 _ _ rfl) (by simp at hz4; omega) (fun e => by have := own_lt ro4.ow _ e; omega) (fun y hy => (((ro4.dt y hy).1.lt (by omega)).alloc _).mono fun q hq => ⟨by have := hq.1.1; simp at this; omega, by have := hq.2; omega, hq.1.2⟩), sm4, F4.alloc _⟩)
          | (refine ⟨w1.heap.size, A4, c4, L4, rfl, Mg.make (Bx0 := w1.heap.size + 1) (((Ro.far (B := w1.heap.size + 1) (by simpa using ro4) (p := ⟨w1.heap.size, 0, none⟩) (by simp) _).far (p := ⟨w1.heap.size, 1, none⟩) (by simp) _).far (p := ⟨w1.heap.size, 2, none⟩) (by simp) _) (by omega) (by simpa using ((X8.set 0 (.int .i64 b)).set 1 (.int .i64 t)).set 2 (.slice A4 n c4)) (by omega) (fun e => by have := own_lt ro4.ow _ e; simp at this; omega) (fun y hy => ?_), sm4, Fr.far (Fr.far (Fr.far F4 hw1 _) hw1 _) hw1 _⟩
             have hne : ¬ w1.heap.size + 1 ≤ w1.heap.size := by omega
             have h6 : Rd w4 (fun q => w1.heap.size + 1 ≤ q ∧ A4.map (·.block) ≠ some q) 1 y.A y.n (bs y.d) := (ro4.dt y hy).1.mono fun q hq => ⟨by have := hq.1; simp at this; omega, hq.2⟩
             exact (((h6.setCell (p := ⟨w1.heap.size, 0, none⟩) (fun q => hne q.1) _).setCell (p := ⟨w1.heap.size, 1, none⟩) (fun q => hne q.1) _).setCell (p := ⟨w1.heap.size, 2, none⟩) (fun q => hne q.1) _).mono fun q hq => ⟨by omega, by omega, hq.2⟩)
  case rest =>
    obtain ⟨cB, C, cC, cl, rfl, mg, hsame, F3⟩ := hcut
    have s3 := sof _ F3
    have Mg0 := Lib.hid mg
    have Sm := Lib.hid hsame
    clear mg hsame
    go_split_ands
    go_wp2_with fail
    refine (Hrg.out _ F3).mono ?_
    rintro e w5 ⟨rfl, hb5⟩
    have F5 := F3.below hb5
    have s5 := sof _ F5
    replace Mg0 := Lib.hid (Mg0.out.below hb5)
    go_split_ands
    go_wp2_with fail
    refine (Hlt.out _ F5).mono ?_
    rintro e w6 ⟨rfl, hb6⟩
    have F6 := F5.below hb6
    have s6 := sof _ F6
    replace Mg0 := Lib.hid (Mg0.out.below hb6)
    go_split_ands
    go_wp2_with fail
    refine (Htm.out _ F6).mono ?_
    rintro e w7 ⟨rfl, hb7⟩
    have F7 := F6.below hb7
    have s7 := sof _ F7
    replace Mg0 := Lib.hid (Mg0.out.below hb7)
    go_split_ands
    obtain ⟨wz, rfl⟩ : ∃ wz, wz = w7 := ⟨_, rfl⟩
    obtain ⟨EV, hEV⟩ : ∃ EV, errC TR.1 = EV := ⟨_, rfl⟩
    rw [hEV]
    go_upto_region 10 with (fail)
    go_cut [70] (fun s70 W => s70 = .bool false ∧ W = wz)
    case first =>
      have h4c : (TR.1 ≠ 0) ∨ (TR.1 = 0 ∧ ¬ b < ix) ∨ (TR.1 = 0 ∧ b < ix ∧ TR.2 = tm) := by
        by_cases e1 : TR.1 = 0
        · by_cases e2 : b < ix
          · by_cases e3 : TR.2 = tm
            · exact .inr (.inr ⟨e1, e2, e3⟩)
            · exact absurd ⟨e1, e2, e3⟩ H4.out
          · exact .inr (.inl ⟨e1, e2⟩)
        · exact .inl e1
      rcases h4c with e1 | ⟨e1, e2⟩ | ⟨e1, e2, e3⟩
      · have e : EV = .iface 105 (.int .i64 TR.1) := by rw [← hEV]; unfold errC; rw [if_neg e1]
        clear hEV
        subst e
        go_wp2_with fail
        all_goals
          go_meet
          case rel => exact ⟨rfl, rfl⟩
      · have e : EV = .nilIface := by rw [← hEV]; unfold errC; rw [if_pos e1]
        clear hEV
        have e2d : decide (b < ix) = false := decide_eq_false e2
        subst e
        go_wp2_with fail
        all_goals
          go_meet
          case rel => exact ⟨rfl, rfl⟩
      · have e : EV = .nilIface := by rw [← hEV]; unfold errC; rw [if_pos e1]
        clear hEV
        have e2d : decide (b < ix) = true := decide_eq_true e2
        have e3d : (TR.2 != tm) = false := by simpa using e3
        subst e
        go_wp2_with fail
        all_goals
          go_meet
          case rel => exact ⟨rfl, rfl⟩
    case rest =>
      obtain ⟨rfl, rfl⟩ := hcut
      go_upto_region 12 with (fail)
      go_cut [16] (fun s16 W => s16 = .int .i64 (max ix b) ∧ W = wc)
      case first =>
        by_cases e2 : b < ix
        · have e : max ix b = ix := by omega
          have E := Lib.hid e
          clear e
          go_wp2_with fail
          all_goals
            go_meet
            case rel => exact ⟨by have e9 := E.out; first | (congr 1; omega) | congr 1, rfl⟩
        · have e : max ix b = b := by omega
          have E := Lib.hid e
          clear e
          go_wp2_with fail
          all_goals
            go_meet
            case rel => exact ⟨by have e9 := E.out; first | (congr 1; omega) | congr 1, rfl⟩
      case rest =>
        obtain ⟨rfl, rfl⟩ := hcut
        have hbase : 0 ≤ b ∧ b ≤ 1099511627776 := by omega
        have hWc0 : ∀ u ∈ cl, W64 u := by
          intro u hu
          have hm : en u ∈ L.map en := by rw [← Sm.out]; exact List.mem_map.2 ⟨u, hu, rfl⟩
          exact Hlw.out _ hm
        have HWc0 := Lib.hid hWc0
        have F7 := Lib.hid F7
        have Hnm := Lib.hid ((Hmr.out _ F7.out).flen ecell_len (by omega))
        clear hWc0
        go_wp2_with fail
        go_loopg [16, 18, 19, 81] nm (fun m s16 s18 s19 s81 wr => ∃ (j : Nat) (lj : Int) (C : Option Addr) (k cC : Nat) (cl : List Er), m = nm - j ∧ j ≤ nm ∧ s81 = .int .i64 j ∧ s16 = .int .i64 lj ∧ mloop b (cl.map en, lj) ((more.map en).drop j) = RS ∧ Mg wr (w.heap.size + 2) cB b t C k cC cl ∧ (∀ u ∈ cl, W64 u) ∧ k ≤ 4096 ∧ Fr W0 (w.heap.size + 1) 3 wr)
        case atStart => exact ⟨0, max ix b, C, n, cC, cl, by omega, by omega, rfl, rfl, by rw [Sm.out]; exact HRS.out, Mg0.out, HWc0.out, by omega, F7.out⟩
        case round =>
          clear Mg0 HWc0 F7 Sm
          obtain ⟨j, lj, C, k, cC, cl, hm, hj, rfl, rfl, hst, hmg, hwc, hk, hf⟩ := hrel
          have Hm := Lib.hid hm
          have Hst0 := Lib.hid hst
          have Mgr := Lib.hid hmg
          have HWc := Lib.hid hwc
          have Fr0 := Lib.hid hf
          have hz := Hz.out
          clear hm hst hmg hwc hf
          by_cases hlt : j < nm
          · obtain ⟨bk, o, x, e, _, hbl, hx, c0, c1, c2, c3⟩ := er_cells (Hmr.out _ Fr0.out) hlt
            subst e
            have hjI : (j : Int) < nm := by omega
            have hdx := Hmd.out _ Fr0.out x (List.mem_of_getElem? hx)
            have hxn := Hgs.out x (List.mem_of_getElem? hx)
            have hx64 := (Hgw.out x (List.mem_of_getElem? hx)).1
            have hxa := hx64.1
            unfold I64 at hxa
            have Hx64 := Lib.hid hx64
            have hdrop : (more.map en).drop j = en x :: (more.map en).drop (j + 1) := by
              have hh : (more.map en)[j]? = some (en x) := by rw [List.getElem?_map, hx]; rfl
              obtain ⟨hi, he⟩ := List.getElem?_eq_some_iff.1 hh
              rw [List.drop_eq_getElem_cons hi, he]
            have hst1 := Hst0.out
            rw [hdrop, mloop] at hst1
            have fa := Fr0.out.alloc (.cells #[.int .i64 x.a, .int .i64 x.b, .int .i64 x.c, .slice x.A x.n x.m] 62)
            obtain ⟨-, sa0, sa1, sa2⟩ := sof _ fa
            have mga := Mgr.out.below ((Below.refl _ _).alloc (Nat.le_refl _) (.cells #[.int .i64 x.a, .int .i64 x.b, .int .i64 x.c, .slice x.A x.n x.m] 62))
            have xpa := Bx.new wr #[.int .i64 x.a, .int .i64 x.b, .int .i64 x.c, .slice x.A x.n x.m] 62 rfl
            have Fa := Lib.hid fa
            have Mga := Lib.hid mga
            have Xpa := Lib.hid xpa
            have Hdx := Lib.hid (hdx.alloc (.cells #[.int .i64 x.a, .int .i64 x.b, .int .i64 x.c, .slice x.A x.n x.m] 62))
            clear hx hdx hx64 hdrop fa mga xpa
            by_cases e1 : x.a ≤ b
            · have e1d : decide (x.a ≤ b) = true := decide_eq_true e1
              have e1' : (en x).a ≤ b := e1
              rw [if_pos e1'] at hst1
              have Hst := Lib.hid hst1
              clear hst1
              go_wp2_with fail
              go_roundg (nm - (j + 1))
              case measure => have := Hm.out; omega
              case rel => exact ⟨j + 1, lj, C, k, cC, cl, rfl, by omega, by go_num, rfl, Hst.out, Mga.out, HWc.out, by omega, Fa.out⟩
            · have e1d : decide (x.a ≤ b) = false := decide_eq_false e1
              have e1' : ¬ (en x).a ≤ b := e1
              rw [if_neg e1'] at hst1
              obtain ⟨q, hq⟩ : ∃ q : Nat, x.a - b - 1 = (q : Int) := ⟨(x.a - b - 1).toNat, by omega⟩
              have w1' : IntKind.i64.wrap (x.a - b) = x.a - b := by rw [IntKind.wrap_i64]; omega
              have w2' : IntKind.i64.wrap (x.a - b - 1) = (q : Int) := by rw [IntKind.wrap_i64]; omega
              have hqq : ((en x).a - b - 1).toNat = q := by show (x.a - b - 1).toNat = q; omega
              have hcl := Mgr.out.len
              have hclm : (cl.map en).length = k := by rw [List.length_map, hcl]
              have hmc : mcut b (cl.map en) (en x) = if q < k ∧ ((cl.map en)[q]?.map (·.b)) ≠ some x.b then (cl.map en).take q else cl.map en := by
                unfold mcut
                rw [hqq, hclm]
                rfl
              have hq0 : (0 : Int) ≤ q := by omega
              clear hq
              obtain ⟨v0, v1, v2, v3, v4, v5⟩ := Mga.out.bx.c3
              by_cases hqk : q < k
              · obtain ⟨bc, oc, u, eC, _, hbc, hu, u0, u1, u2, u3⟩ := er_cells Mga.out.rd hqk
                subst eC
                have hub : ((cl.map en)[q]?.map (·.b)) = some u.b := by rw [List.getElem?_map, hu]; rfl
                rw [hub] at hmc
                have hqkI : (q : Int) < k := by omega
                by_cases hne : u.b = x.b
                · rw [if_neg (by simp [hne])] at hmc
                  rw [hmc, hqq, hclm, if_neg (by omega)] at hst1
                  clear hmc hqq
                  have ned : (u.b != x.b) = false := by simpa using hne
                  have eqd : ((q : Int) == (k : Int)) = false := by simp; omega
                  have Hst := Lib.hid hst1
                  clear hst1 hub hu
                  go_wp2_with fail
                  go_quiet (fail)
                  go_wp2_with fail
                  go_roundg (nm - (j + 1))
                  case measure => have := Hm.out; omega
                  case rel => exact ⟨j + 1, x.a, _, k, cC, cl, rfl, by omega, by go_num, rfl, Hst.out, (Mga.out.below (below_drewN (Below.refl _ _) _)), HWc.out, by omega, (Fa.out.drewN _)⟩
                · rw [if_pos ⟨hqk, by simpa using hne⟩] at hmc
                  have hlt4 : ((cl.map en).take q).length = q := by rw [List.length_take, hclm]; omega
                  rw [hmc, hqq, hlt4, if_pos rfl, if_neg (by omega), ← List.map_take] at hst1
                  clear hmc hqq
                  have ned : (u.b != x.b) = true := by simpa using hne
                  have t4 : decide (4096 ≤ (q : Int)) = false := decide_eq_false (by omega)
                  have Hst := Lib.hid hst1
                  clear hst1 hub hu hlt4
                  have hcap := own_cap Mgr.out.ow
                  obtain ⟨gq, hgq⟩ : ∃ gq, (some ⟨bc, oc, none⟩ : Option Addr) = some ⟨gq, 0, none⟩ := by
                    rcases Mgr.out.form with h | ⟨gq, h⟩
                    · cases h
                    · exact ⟨gq, h⟩
                  obtain ⟨rfl, rfl⟩ : bc = gq ∧ oc = 0 := by injection hgq with hgq; injection hgq with e1 e2 _; exact ⟨e1, e2⟩
                  simp only [Nat.zero_add] at u0 u1 u2 u3
                  have hc0' : ¬ cC = 0 := by omega
                  have hqc : q ≤ cC := by omega
                  have hqcI : (q : Int) ≤ cC := by omega
                  have hleB := Mgr.out.le
                  have hcBw := Mgr.out.bx.lt
                  clear hgq
                  go_wp2_with fail
                  go_quiet (fail)
                  have mgv := (Mga.out.below (below_drewN (Below.refl _ _) nq)).cut (m := q) (by omega) (.inr ⟨bc, rfl⟩)
                  have fv := (Fa.out.drewN nq).far (p := ⟨cB, 2, none⟩) (by show W0.heap.size ≤ cB; omega) (.slice (some ⟨bc, 0, none⟩) q cC)
                  have xpv := (Xpa.out.drewN nq).far (p := ⟨cB, 2, none⟩) (by show wr.heap.size ≠ cB; omega) (.slice (some ⟨bc, 0, none⟩) q cC)
                  have hdv := (Hdx.out.drewN nq).setCell (p := ⟨cB, 2, none⟩) (by show ¬ cB < w.heap.size; omega) (.slice (some ⟨bc, 0, none⟩) q cC)
                  obtain ⟨wv, hwv⟩ : ∃ wv, wv = ((wr.alloc (.cells #[.int .i64 x.a, .int .i64 x.b, .int .i64 x.c, .slice x.A x.n x.m] 62)).drewN nq).setCell ⟨cB, 2, none⟩ (.slice (some ⟨bc, 0, none⟩) q cC) := ⟨_, rfl⟩
                  have HV := Lib.hid hwv
                  rw [← hwv] at mgv fv xpv hdv
                  have Mgv := Lib.hid mgv
                  have Fv := Lib.hid fv
                  have Xpv := Lib.hid xpv
                  have Hdv := Lib.hid hdv
                  have hWv : ∀ u ∈ cl.take q, W64 u := fun u hu => HWc.out u (List.mem_of_mem_take hu)
                  have HWv := Lib.hid hWv
                  have hxw := xpv.lt
                  clear mgv fv xpv hdv hwv hWv
                  go_upto_region 20 with (fail)
                  rw [← HV.out]
                  obtain ⟨y0', y1', y2', -⟩ := Mgv.out.bx.c3
                  have v2 := Mgv.out.bx.c 2
                  have v2d := Mgv.out.bx.drew.c 2
                  have hown1 := own1_any x _ (Hdv.out.drew).any hxn
                  have Hown1 := Lib.hid hown1
                  have hcBl := Mgv.out.bx.lt
                  have hle := Mgv.out.le
                  have xpv := Xpv.out
                  obtain ⟨p0, p1, p2, p3, -⟩ := xpv.c4
                  obtain ⟨pd0, pd1, pd2, pd3, -⟩ := xpv.drew.c4
                  clear hown1
                  go_upto_region 22 with (fail)
                  go_region_law (first
                    | (rw [if_pos (by rfl)]; go_simp; go_at_call 59; refine Hown1.out.mono ?_; rintro e w8 ⟨A8, m8, rfl, r8, hm1, hm2, hb8⟩; have mg8 := Mgv.out.below (Below.trans (Below.refl _ _).drew hb8); have y2 : w8.cell? ⟨cB, 2, none⟩ = some (.slice (some ⟨bc, 0, none⟩) q cC) := mg8.bx.c 2; have y2a : ∀ ob, (w8.alloc ob).cell? ⟨cB, 2, none⟩ = some (.slice (some ⟨bc, 0, none⟩) q cC) := fun ob => (mg8.bx.alloc ob).c 2)
                    | (refine step_append_any (c := 1) (w := w8.alloc (.cells #[.int .i64 x.a, .int .i64 x.b, .int .i64 x.c, .slice A8 x.n m8] 62)) (news := [.int .i64 x.a, .int .i64 x.b, .int .i64 x.c, .slice A8 x.n m8]) Tryz.underlying36 ent_elem rfl (by omega) rfl rfl (by simp [Act.eval, Act.put]) (own_below mg8.ow ((Below.refl _ _).alloc (Nat.le_refl _) (.cells #[.int .i64 x.a, .int .i64 x.b, .int .i64 x.c, .slice A8 x.n m8] 62))) (by simp [Act.eval, Act.put]) (show Rd (w8.alloc (.cells #[.int .i64 x.a, .int .i64 x.b, .int .i64 x.c, .slice A8 x.n m8] 62)) T 4 (some ⟨w8.heap.size, 0, none⟩) 1 [.int .i64 x.a, .int .i64 x.b, .int .i64 x.c, .slice A8 x.n m8] from Rd.lit4 w8 _ rfl) (by intro u hu; simp only [List.mem_cons, List.not_mem_nil, or_false] at hu; rcases hu with rfl | rfl | rfl | rfl <;> rfl) (by omega) (by have := mg8.bx.lt; simp; omega) rfl rfl ?_; intro A9 c9 w9 hown9 hg9 hat9; have hx9 := ((mg8.bx.alloc (.cells #[.int .i64 x.a, .int .i64 x.b, .int .i64 x.c, .slice A8 x.n m8] 62)).grown hg9 (fun e => mg8.nb e)); have m1 := hx9.c 2; have m2 := hx9.f 2; have xp9 := (((xpv.drew.below hb8).alloc (.cells #[.int .i64 x.a, .int .i64 x.b, .int .i64 x.c, .slice A8 x.n m8] 62)).grown hg9 (fun e => by have := own_lt Mgr.out.ow _ e; omega)); obtain ⟨p0, p1, p2, p3, -⟩ := xp9.c4))
                  all_goals
                    have hsz8 := hb8.size
                    have mgN := (mg8.below ((Below.refl _ _).alloc (Nat.le_refl _) (.cells #[.int .i64 x.a, .int .i64 x.b, .int .i64 x.c, .slice A8 x.n m8] 62))).push (y := ⟨x.a, x.b, x.c, A8, x.n, m8, x.d⟩) ((r8.alloc _).mono fun q hq => ⟨by simp at hq; omega, by simp at hq; omega, fun e => by have := own_lt Mgv.out.ow q e; simp at hq; omega⟩) hm1 hm2 rfl hown9 hg9 hat9
                    have fN := (((((Fv.out.drew).below hb8).alloc (.cells #[.int .i64 x.a, .int .i64 x.b, .int .i64 x.c, .slice A8 x.n m8] 62)).grown hg9 (fun g hg => by have := (own_lt Mgv.out.ow g hg).1; omega)).far (p := ⟨cB, 2, none⟩) (by show W0.heap.size ≤ cB; omega) (.slice A9 (q + 1) c9))
                    have wN : ∀ u ∈ cl.take q ++ [(⟨x.a, x.b, x.c, A8, x.n, m8, x.d⟩ : Er)], W64 u := fun u hu => by
                      rcases List.mem_append.1 hu with hu | hu
                      · exact HWv.out u hu
                      · obtain rfl := List.mem_singleton.1 hu
                        exact Hx64.out
                    have stN : mloop b ((cl.take q ++ [(⟨x.a, x.b, x.c, A8, x.n, m8, x.d⟩ : Er)]).map en, x.a) ((more.map en).drop (j + 1)) = RS := by
                      rw [List.map_append]
                      exact Hst.out
                    have MgN := Lib.hid mgN
                    have FN := Lib.hid fN
                    have WN := Lib.hid wN
                    have SN := Lib.hid stN
                    clear mgN fN wN stN
                    have npc : ¬ wr.heap.size = cB := by have := Mgr.out.bx.lt; omega
                    go_wp2_with fail
                    go_roundg (nm - (j + 1))
                    case measure => have := Hm.out; omega
                    case rel => exact ⟨j + 1, x.a, A9, q + 1, c9, _, rfl, by omega, by go_num, rfl, SN.out, MgN.out, WN.out, by omega, FN.out⟩
              · have hqkI : ¬ (q : Int) < k := by omega
                have hqkd : decide ((q : Int) < k) = false := decide_eq_false hqkI
                rw [if_neg (fun h => hqk h.1)] at hmc
                rw [hmc, hqq, hclm] at hst1
                clear hmc hqq
                by_cases hqe : q = k
                · subst hqe
                  rw [if_pos rfl] at hst1
                  by_cases h4096 : 4096 ≤ q
                  · rw [if_pos h4096] at hst1
                    have t4 : decide (4096 ≤ (q : Int)) = true := decide_eq_true (by omega)
                    have Hst := Lib.hid hst1
                    clear hst1
                    go_wp2_with fail
                    go_quiet (fail)
                    have mgE := fun r => Mga.out.below (below_drewN (Below.refl _ _) r)
                    have fE := fun r => Fa.out.drewN r
                    have hRE := Hst.out
                    have hWE := HWc.out
                    have MgE := Lib.hid mgE
                    have FE := Lib.hid fE
                    have RE := Lib.hid hRE
                    have WE := Lib.hid hWE
                    clear mgE fE hRE hWE
                    have hmyE := fun r => may_any b t C q cC cl _ (MgE.out r).rd ((MgE.out r).wel WE.out) (by omega)
                    rw [show cl.map en = RS.1 from congrArg Prod.fst RE.out, H5.out] at hmyE
                    have HmyE := Lib.hid hmyE
                    clear hmyE
                    go_wp2_with fail
                    refine (HmyE.out _).mono ?_
                    rintro e w9 ⟨rfl, hb9⟩
                    have mg9 := (MgE.out _).below hb9
                    have f9 := (FE.out _).below hb9
                    obtain ⟨z0, z1, z2, z3, z4, z5⟩ := mg9.bx.c3
                    have q0 : w9.cell? ⟨w.heap.size + 1, 0, none⟩ = some (peek w9 (w.heap.size + 1) 0) := f9.pk (by omega)
                    have q1 : w9.cell? ⟨w.heap.size + 1, 1, none⟩ = some (peek w9 (w.heap.size + 1) 1) := f9.pk (by omega)
                    have q2 : w9.cell? ⟨w.heap.size + 1, 2, none⟩ = some (peek w9 (w.heap.size + 1) 2) := f9.pk (by omega)
                    have g0 : w9.frozen? ⟨w.heap.size + 1, 0, none⟩ = false := f9.fz _
                    have g1 : w9.frozen? ⟨w.heap.size + 1, 1, none⟩ = false := f9.fz _
                    have g2 : w9.frozen? ⟨w.heap.size + 1, 2, none⟩ = false := f9.fz _
                    have FF := Fr.set (Fr.set (Fr.set f9 0 (.int .i64 b)) 1 (.int .i64 t)) 2 (.slice C q cC)
                    cases q5
                    · have FS := Lib.hid (fun W (h : Fr W0 (w.heap.size + 1) 3 W) => (sof W h).2)
                      clear q0 q1 q2 g0 g1 g2 FF mg9 hb9
                      go_upto_region 26 with (fail)
                      have fd : Fr W0 (w.heap.size + 1) 3 w9.drew := f9.drew
                      refine wp_region_S 10 (fun W => Fr W0 (w.heap.size + 1) 3 W) (.take 0 (.take 1 (.take 2 (.take 3 (.take 4 (.take 5 (.one 6 (.take 7 (.one 8 (.take 9 (.one 10 (.nil)))))))))))) (by kernel_rfl) fd (fun _ _ _ _ h => h) (fun hS => ?_)
                      repeat (first
                        | (refine wpS_take (v := ?_) rfl rfl (by rfl) ?_ ?_; rotate_left; (intro W hW; have hf := FS.out W hW; go_split_ands; go_simp; try with_reducible rfl); try simp only [Act.put, lyA, lyB, lyC])
                        | (refine wpS_skip rfl rfl (by rfl) ?_; try simp only [Act.put, lyA, lyB, lyC]))
                      refine wpS_one rfl (by rfl) (fun K hK => ?_)
                      go_simp
                      go_at_call 117
                      refine (How.out _ hS).mono ?_
                      rintro e wq ⟨A4, c4, L4, rfl, ro4, sm4, hb4, z4⟩
                      have F4 : Fr W0 (w.heap.size + 1) 3 wq := hS.below hb4
                      clear hS hb4
                      refine hK (fun W => Fr W0 (w.heap.size + 1) 3 W) _ _ (fun W h => h) F4 ?_
                      clear hK K
                      try simp only [Act.put, lyA, lyB, lyC]
                      repeat (first
                        | (refine wpS_take (v := ?_) rfl rfl (by rfl) ?_ ?_; rotate_left; (intro W hW; have hf := FS.out W hW; go_split_ands; go_simp; try with_reducible rfl); try simp only [Act.put, lyA, lyB, lyC])
                        | (refine wpS_skip rfl rfl (by rfl) ?_; try simp only [Act.put, lyA, lyB, lyC]))
                      have q0 : wq.cell? ⟨w.heap.size + 1, 0, none⟩ = some (peek wq (w.heap.size + 1) 0) := F4.pk (by omega)
                      have g0 : wq.frozen? ⟨w.heap.size + 1, 0, none⟩ = false := F4.fz _
                      have q1 : wq.cell? ⟨w.heap.size + 1, 1, none⟩ = some (peek wq (w.heap.size + 1) 1) := F4.pk (by omega)
                      have g1 : wq.frozen? ⟨w.heap.size + 1, 1, none⟩ = false := F4.fz _
                      have q2 : wq.cell? ⟨w.heap.size + 1, 2, none⟩ = some (peek wq (w.heap.size + 1) 2) := F4.pk (by omega)
                      have g2 : wq.frozen? ⟨w.heap.size + 1, 2, none⟩ = false := F4.fz _
                      refine wpS_one rfl (by rfl) (fun K hK => ?_)
                      go_simp
                      have F5 := Fr.set (Fr.set (Fr.set F4 0 (.int .i64 b)) 1 (.int .i64 t)) 2 (.slice A4 n c4)
                      refine hK (fun W => Fr W0 (w.heap.size + 1) 3 W) _ _ (fun W h => h) F5 ?_
                      clear hK K
                      try simp only [Act.put, lyA, lyB, lyC]
                      repeat (first
                        | (refine wpS_take (v := ?_) rfl rfl (by rfl) ?_ ?_; rotate_left; (intro W hW; have hf := FS.out W hW; go_split_ands; go_simp; try with_reducible rfl); try simp only [Act.put, lyA, lyB, lyC])
                        | (refine wpS_skip rfl rfl (by rfl) ?_; try simp only [Act.put, lyA, lyB, lyC]))
                      refine wpS_last rfl (by rfl) (fun K hK => ?_)
                      go_simp
                      refine hK _ _ ?_
                      clear hK K
                      try simp only [Act.put, lyA, lyB, lyC]
                      refine wpS_nil ?_
                      go_wp2_with fail
                      refine bodyPost_ret (by simp [results, Tryz.results127, go_sem, q0, q1, q2]; rfl) rfl ?_
                      have hz := Hz.out
                      have hcap := own_cap ro4.ow
                      have rF := ((ro4.far (p := ⟨w.heap.size + 1, 0, none⟩) (by show w.heap.size + 1 < _; omega) (.int .i64 b)).far (p := ⟨w.heap.size + 1, 1, none⟩) (by show w.heap.size + 1 < _; omega) (.int .i64 t)).far (p := ⟨w.heap.size + 1, 2, none⟩) (by show w.heap.size + 1 < _; omega) (.slice A4 n c4)
                      unfold MergeFinW
                      rw [H5.out, if_neg (by decide)]
                      exact ⟨A4, n, c4, L4, _, rfl, (Rd.of_own rF.ow).mono (fun q hq => by omega), (fun y hy => ⟨(rF.dt y hy).1.mono (fun q hq => by have := hq.1; omega), (rF.dt y hy).2⟩), sm4, hcap, hbe.trans (F5.to_below (B := w.heap.size) (by omega))⟩
                    · have F9 := Lib.hid FF
                      have M9 := Lib.hid mg9
                      have hlecB := mg9.le
                      have nR1 : ¬ w.heap.size + 1 = cB := by omega
                      have nR2 : ¬ cB = w.heap.size + 1 := by omega
                      clear FF mg9 f9 hb9
                      go_wp2_with fail
                      refine bodyPost_ret (by simp [results, Tryz.results127, go_sem, q0, q1, q2]; rfl) rfl ?_
                      have hne : ¬ w.heap.size + 2 ≤ w.heap.size + 1 := by omega
                      have hl1 : lj = RS.2 := congrArg Prod.snd RE.out
                      unfold MergeFinW
                      rw [H5.out, if_pos rfl]
                      refine ⟨C, q, cC, cl, by rw [← hl1], ?_, fun u hu => ⟨?_, (M9.out.dt u hu).2⟩, congrArg Prod.fst RE.out, own_cap M9.out.ow, hbe.trans (F9.out.to_below (B := w.heap.size) (by omega))⟩
                      · exact ((((Rd.of_own M9.out.ow).setCell (p := ⟨w.heap.size + 1, 0, none⟩) hne _).setCell (p := ⟨w.heap.size + 1, 1, none⟩) hne _).setCell (p := ⟨w.heap.size + 1, 2, none⟩) hne _).mono (fun q hq => by omega)
                      · exact (((((M9.out.dt u hu).1.mono (ok' := (w.heap.size + 2 ≤ ·)) fun q hq => hq.1).setCell (p := ⟨w.heap.size + 1, 0, none⟩) hne _).setCell (p := ⟨w.heap.size + 1, 1, none⟩) hne _).setCell (p := ⟨w.heap.size + 1, 2, none⟩) hne _).mono (fun q hq => by omega)
                  · rw [if_neg h4096] at hst1
                    have t4 : decide (4096 ≤ (q : Int)) = false := decide_eq_false (by omega)
                    have Hst := Lib.hid hst1
                    clear hst1
                    go_wp2_with fail
                    go_quiet (fail)
                    have mgv := Mga.out.below (below_drewN (Below.refl _ _) nq)
                    have fv := Fa.out.drewN nq
                    have xpv := Xpa.out.drewN nq
                    have hdv := Hdx.out.drewN nq
                    obtain ⟨wv, hwv⟩ : ∃ wv, wv = (wr.alloc (.cells #[.int .i64 x.a, .int .i64 x.b, .int .i64 x.c, .slice x.A x.n x.m] 62)).drewN nq := ⟨_, rfl⟩
                    rw [← hwv] at mgv fv xpv hdv ⊢
                    have Mgv := Lib.hid mgv
                    have Fv := Lib.hid fv
                    have Xpv := Lib.hid xpv
                    have Hdv := Lib.hid hdv
                    have HWv := HWc
                    have hxw := xpv.lt
                    clear mgv fv xpv hdv hwv
                    obtain ⟨y0', y1', y2', -⟩ := Mgv.out.bx.c3
                    have v2 := Mgv.out.bx.c 2
                    have v2d := Mgv.out.bx.drew.c 2
                    have hown1 := own1_any x _ (Hdv.out.drew).any hxn
                    have Hown1 := Lib.hid hown1
                    have hcBl := Mgv.out.bx.lt
                    have hle := Mgv.out.le
                    have xpv := Xpv.out
                    obtain ⟨p0, p1, p2, p3, -⟩ := xpv.c4
                    obtain ⟨pd0, pd1, pd2, pd3, -⟩ := xpv.drew.c4
                    clear hown1
                    go_upto_region 22 with (fail)
                    go_region_law (first
                      | (rw [if_pos (by rfl)]; go_simp; go_at_call 59; refine Hown1.out.mono ?_; rintro e w8 ⟨A8, m8, rfl, r8, hm1, hm2, hb8⟩; have mg8 := Mgv.out.below (Below.trans (Below.refl _ _).drew hb8); have y2 : w8.cell? ⟨cB, 2, none⟩ = some (.slice C q cC) := mg8.bx.c 2; have y2a : ∀ ob, (w8.alloc ob).cell? ⟨cB, 2, none⟩ = some (.slice C q cC) := fun ob => (mg8.bx.alloc ob).c 2)
                      | (refine step_append_any (c := 1) (w := w8.alloc (.cells #[.int .i64 x.a, .int .i64 x.b, .int .i64 x.c, .slice A8 x.n m8] 62)) (news := [.int .i64 x.a, .int .i64 x.b, .int .i64 x.c, .slice A8 x.n m8]) Tryz.underlying36 ent_elem rfl (by omega) rfl rfl (by simp [Act.eval, Act.put]) (own_below mg8.ow ((Below.refl _ _).alloc (Nat.le_refl _) (.cells #[.int .i64 x.a, .int .i64 x.b, .int .i64 x.c, .slice A8 x.n m8] 62))) (by simp [Act.eval, Act.put]) (show Rd (w8.alloc (.cells #[.int .i64 x.a, .int .i64 x.b, .int .i64 x.c, .slice A8 x.n m8] 62)) T 4 (some ⟨w8.heap.size, 0, none⟩) 1 [.int .i64 x.a, .int .i64 x.b, .int .i64 x.c, .slice A8 x.n m8] from Rd.lit4 w8 _ rfl) (by intro u hu; simp only [List.mem_cons, List.not_mem_nil, or_false] at hu; rcases hu with rfl | rfl | rfl | rfl <;> rfl) (by omega) (by have := mg8.bx.lt; simp; omega) rfl rfl ?_; intro A9 c9 w9 hown9 hg9 hat9; have hx9 := ((mg8.bx.alloc (.cells #[.int .i64 x.a, .int .i64 x.b, .int .i64 x.c, .slice A8 x.n m8] 62)).grown hg9 (fun e => mg8.nb e)); have m1 := hx9.c 2; have m2 := hx9.f 2; have xp9 := (((xpv.drew.below hb8).alloc (.cells #[.int .i64 x.a, .int .i64 x.b, .int .i64 x.c, .slice A8 x.n m8] 62)).grown hg9 (fun e => by have := own_lt Mgr.out.ow _ e; omega)); obtain ⟨p0, p1, p2, p3, -⟩ := xp9.c4))
                    all_goals
                      have hsz8 := hb8.size
                      have mgN := (mg8.below ((Below.refl _ _).alloc (Nat.le_refl _) (.cells #[.int .i64 x.a, .int .i64 x.b, .int .i64 x.c, .slice A8 x.n m8] 62))).push (y := ⟨x.a, x.b, x.c, A8, x.n, m8, x.d⟩) ((r8.alloc _).mono fun q hq => ⟨by simp at hq; omega, by simp at hq; omega, fun e => by have := own_lt Mgv.out.ow q e; simp at hq; omega⟩) hm1 hm2 rfl hown9 hg9 hat9
                      have fN := (((((Fv.out.drew).below hb8).alloc (.cells #[.int .i64 x.a, .int .i64 x.b, .int .i64 x.c, .slice A8 x.n m8] 62)).grown hg9 (fun g hg => by have := (own_lt Mgv.out.ow g hg).1; omega)).far (p := ⟨cB, 2, none⟩) (by show W0.heap.size ≤ cB; omega) (.slice A9 (q + 1) c9))
                      have wN : ∀ u ∈ cl ++ [(⟨x.a, x.b, x.c, A8, x.n, m8, x.d⟩ : Er)], W64 u := fun u hu => by
                        rcases List.mem_append.1 hu with hu | hu
                        · exact HWv.out u hu
                        · obtain rfl := List.mem_singleton.1 hu
                          exact Hx64.out
                      have stN : mloop b ((cl ++ [(⟨x.a, x.b, x.c, A8, x.n, m8, x.d⟩ : Er)]).map en, x.a) ((more.map en).drop (j + 1)) = RS := by
                        rw [List.map_append]
                        exact Hst.out
                      have MgN := Lib.hid mgN
                      have FN := Lib.hid fN
                      have WN := Lib.hid wN
                      have SN := Lib.hid stN
                      clear mgN fN wN stN
                      have npc : ¬ wr.heap.size = cB := by have := Mgr.out.bx.lt; omega
                      go_wp2_with fail
                      go_roundg (nm - (j + 1))
                      case measure => have := Hm.out; omega
                      case rel => exact ⟨j + 1, x.a, A9, q + 1, c9, _, rfl, by omega, by go_num, rfl, SN.out, MgN.out, WN.out, by omega, FN.out⟩
                · rw [if_neg hqe] at hst1
                  have eqd : ((q : Int) == (k : Int)) = false := by simp; omega
                  have Hst := Lib.hid hst1
                  clear hst1
                  go_wp2_with fail
                  go_quiet (fail)
                  go_wp2_with fail
                  go_roundg (nm - (j + 1))
                  case measure => have := Hm.out; omega
                  case rel => exact ⟨j + 1, x.a, _, k, cC, cl, rfl, by omega, by go_num, rfl, Hst.out, (Mga.out.below (below_drewN (Below.refl _ _) _)), HWc.out, by omega, (Fa.out.drewN _)⟩
          · obtain rfl : j = nm := by omega
            have hfin := Hst0.out
            rw [List.drop_of_length_le (by simp [Hnm.out])] at hfin
            have mgE := Mgr.out
            have fE := Fr0.out
            have hRE := hfin
            have hWE := HWc.out
            clear hfin
            have MgE := Lib.hid mgE
            have FE := Lib.hid fE
            have RE := Lib.hid hRE
            have WE := Lib.hid hWE
            clear mgE fE hRE hWE
            have hmyE := may_any b t C k cC cl _ MgE.out.rd (MgE.out.wel WE.out) (by omega)
            rw [show cl.map en = RS.1 from congrArg Prod.fst RE.out, H5.out] at hmyE
            have HmyE := Lib.hid hmyE
            clear hmyE
            obtain ⟨z0, z1, z2, z3, z4, z5⟩ := MgE.out.bx.c3
            go_wp2_with fail
            refine HmyE.out.mono ?_
            rintro e w9 ⟨rfl, hb9⟩
            have mg9 := MgE.out.below hb9
            have f9 := FE.out.below hb9
            obtain ⟨z0, z1, z2, z3, z4, z5⟩ := mg9.bx.c3
            have q0 : w9.cell? ⟨w.heap.size + 1, 0, none⟩ = some (peek w9 (w.heap.size + 1) 0) := f9.pk (by omega)
            have q1 : w9.cell? ⟨w.heap.size + 1, 1, none⟩ = some (peek w9 (w.heap.size + 1) 1) := f9.pk (by omega)
            have q2 : w9.cell? ⟨w.heap.size + 1, 2, none⟩ = some (peek w9 (w.heap.size + 1) 2) := f9.pk (by omega)
            have g0 : w9.frozen? ⟨w.heap.size + 1, 0, none⟩ = false := f9.fz _
            have g1 : w9.frozen? ⟨w.heap.size + 1, 1, none⟩ = false := f9.fz _
            have g2 : w9.frozen? ⟨w.heap.size + 1, 2, none⟩ = false := f9.fz _
            have FF := Fr.set (Fr.set (Fr.set f9 0 (.int .i64 b)) 1 (.int .i64 t)) 2 (.slice C k cC)
            cases q5
            · have FS := Lib.hid (fun W (h : Fr W0 (w.heap.size + 1) 3 W) => (sof W h).2)
              clear q0 q1 q2 g0 g1 g2 FF mg9 hb9
              go_upto_region 26 with (fail)
              have fd : Fr W0 (w.heap.size + 1) 3 w9.drew := f9.drew
              refine wp_region_S 10 (fun W => Fr W0 (w.heap.size + 1) 3 W) (.take 0 (.take 1 (.take 2 (.take 3 (.take 4 (.take 5 (.one 6 (.take 7 (.one 8 (.take 9 (.one 10 (.nil)))))))))))) (by kernel_rfl) fd (fun _ _ _ _ h => h) (fun hS => ?_)
              repeat (first
                | (refine wpS_take (v := ?_) rfl rfl (by rfl) ?_ ?_; rotate_left; (intro W hW; have hf := FS.out W hW; go_split_ands; go_simp; try with_reducible rfl); try simp only [Act.put, lyA, lyB, lyC])
                | (refine wpS_skip rfl rfl (by rfl) ?_; try simp only [Act.put, lyA, lyB, lyC]))
              refine wpS_one rfl (by rfl) (fun K hK => ?_)
              go_simp
              go_at_call 117
              refine (How.out _ hS).mono ?_
              rintro e wq ⟨A4, c4, L4, rfl, ro4, sm4, hb4, z4⟩
              have F4 : Fr W0 (w.heap.size + 1) 3 wq := hS.below hb4
              clear hS hb4
              refine hK (fun W => Fr W0 (w.heap.size + 1) 3 W) _ _ (fun W h => h) F4 ?_
              clear hK K
              try simp only [Act.put, lyA, lyB, lyC]
              repeat (first
                | (refine wpS_take (v := ?_) rfl rfl (by rfl) ?_ ?_; rotate_left; (intro W hW; have hf := FS.out W hW; go_split_ands; go_simp; try with_reducible rfl); try simp only [Act.put, lyA, lyB, lyC])
                | (refine wpS_skip rfl rfl (by rfl) ?_; try simp only [Act.put, lyA, lyB, lyC]))
              have q0 : wq.cell? ⟨w.heap.size + 1, 0, none⟩ = some (peek wq (w.heap.size + 1) 0) := F4.pk (by omega)
              have g0 : wq.frozen? ⟨w.heap.size + 1, 0, none⟩ = false := F4.fz _
              have q1 : wq.cell? ⟨w.heap.size + 1, 1, none⟩ = some (peek wq (w.heap.size + 1) 1) := F4.pk (by omega)
              have g1 : wq.frozen? ⟨w.heap.size + 1, 1, none⟩ = false := F4.fz _
              have q2 : wq.cell? ⟨w.heap.size + 1, 2, none⟩ = some (peek wq (w.heap.size + 1) 2) := F4.pk (by omega)
              have g2 : wq.frozen? ⟨w.heap.size + 1, 2, none⟩ = false := F4.fz _
              refine wpS_one rfl (by rfl) (fun K hK => ?_)
              go_simp
              have F5 := Fr.set (Fr.set (Fr.set F4 0 (.int .i64 b)) 1 (.int .i64 t)) 2 (.slice A4 n c4)
              refine hK (fun W => Fr W0 (w.heap.size + 1) 3 W) _ _ (fun W h => h) F5 ?_
              clear hK K
              try simp only [Act.put, lyA, lyB, lyC]
              repeat (first
                | (refine wpS_take (v := ?_) rfl rfl (by rfl) ?_ ?_; rotate_left; (intro W hW; have hf := FS.out W hW; go_split_ands; go_simp; try with_reducible rfl); try simp only [Act.put, lyA, lyB, lyC])
                | (refine wpS_skip rfl rfl (by rfl) ?_; try simp only [Act.put, lyA, lyB, lyC]))
              refine wpS_last rfl (by rfl) (fun K hK => ?_)
              go_simp
              refine hK _ _ ?_
              clear hK K
              try simp only [Act.put, lyA, lyB, lyC]
              refine wpS_nil ?_
              go_wp2_with fail
              refine bodyPost_ret (by simp [results, Tryz.results127, go_sem, q0, q1, q2]; rfl) rfl ?_
              have hz := Hz.out
              have hcap := own_cap ro4.ow
              have rF := ((ro4.far (p := ⟨w.heap.size + 1, 0, none⟩) (by show w.heap.size + 1 < _; omega) (.int .i64 b)).far (p := ⟨w.heap.size + 1, 1, none⟩) (by show w.heap.size + 1 < _; omega) (.int .i64 t)).far (p := ⟨w.heap.size + 1, 2, none⟩) (by show w.heap.size + 1 < _; omega) (.slice A4 n c4)
              unfold MergeFinW
              rw [H5.out, if_neg (by decide)]
              exact ⟨A4, n, c4, L4, _, rfl, (Rd.of_own rF.ow).mono (fun q hq => by omega), (fun y hy => ⟨(rF.dt y hy).1.mono (fun q hq => by have := hq.1; omega), (rF.dt y hy).2⟩), sm4, hcap, hbe.trans (F5.to_below (B := w.heap.size) (by omega))⟩
            · have F9 := Lib.hid FF
              have M9 := Lib.hid mg9
              have hlecB := mg9.le
              have nR1 : ¬ w.heap.size + 1 = cB := by omega
              have nR2 : ¬ cB = w.heap.size + 1 := by omega
              clear FF mg9 f9 hb9
              go_wp2_with fail
              refine bodyPost_ret (by simp [results, Tryz.results127, go_sem, q0, q1, q2]; rfl) rfl ?_
              have hne : ¬ w.heap.size + 2 ≤ w.heap.size + 1 := by omega
              have hl1 : lj = RS.2 := congrArg Prod.snd RE.out
              unfold MergeFinW
              rw [H5.out, if_pos rfl]
              refine ⟨C, k, cC, cl, by rw [← hl1], ?_, fun u hu => ⟨?_, (M9.out.dt u hu).2⟩, congrArg Prod.fst RE.out, own_cap M9.out.ow, hbe.trans (F9.out.to_below (B := w.heap.size) (by omega))⟩
              · exact ((((Rd.of_own M9.out.ow).setCell (p := ⟨w.heap.size + 1, 0, none⟩) hne _).setCell (p := ⟨w.heap.size + 1, 1, none⟩) hne _).setCell (p := ⟨w.heap.size + 1, 2, none⟩) hne _).mono (fun q hq => by omega)
              · exact (((((M9.out.dt u hu).1.mono (ok' := (w.heap.size + 2 ≤ ·)) fun q hq => hq.1).setCell (p := ⟨w.heap.size + 1, 0, none⟩) hne _).setCell (p := ⟨w.heap.size + 1, 1, none⟩) hne _).setCell (p := ⟨w.heap.size + 1, 2, none⟩) hne _).mono (fun q hq => by omega)
end Go.Proofs.YtmhaahcbmdhinaaGreatDoor
