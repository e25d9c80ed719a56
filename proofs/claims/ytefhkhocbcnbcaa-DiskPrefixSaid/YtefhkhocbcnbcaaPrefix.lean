/- The law DiskPrefix, walked. -/
import Derived.Test.YtefhkhocbcnbcaaPre
import Derived.Test.YtefhkhocbcnbcaaSure
import Derived.Test.YtefhkhocbcnbcaaBrows
import Derived.BigQuiet
import Derived.Deep.QuietTactic
namespace Go.Proofs.Ytefhkhocbcnbcaa
open Go.RowKit
set_option maxRecDepth 100000
set_option linter.unusedVariables false
set_option linter.unusedSimpArgs false
def pieces (L : List Br) : List (List UInt8) := L.map Br.d
/-- A disk of ours, behind so many writes. -/
structure PreI (w : World) (L : List Br) (i g : Nat) (wr : World) : Prop where
  ex : ∃ U D, DX wr U g D 1000 ∧ PreD D (pieces (L.take i)) ∧ (∀ b, U b → w.heap.size ≤ b)
  be : Below w.heap.size w wr
  le : ∀ x ∈ L.take i, x.d.length ≤ 40
theorem i64_small {z : Int} (h1 : -1 ≤ z) (h2 : z ≤ 100000) : I64 z := by unfold I64; omega
theorem pieces_take {L : List Br} {i : Nat} {x : Br} (hx : L[i]? = some x) : L.take (i + 1) = L.take i ++ [x] := by rw [List.take_add_one, hx]; rfl
theorem pre_step {w wr : World} {L : List Br} {i g : Nat} {x : Br} (h : PreI w L i g wr) (hx : L[i]? = some x) (hi : i ≤ 19) (hxl : x.n ≤ 40) (hd : Rd w T 1 x.A x.n (bs x.d)) :
    Calls Try.prog 6 #[.pointer (some ⟨g, 0, none⟩), .int .i64 (50 * (i : Int)), .slice x.A x.n x.m] wr (fun e w' => e = .returned .nilIface ∧ PreI w L (i + 1) g w') := by
  obtain ⟨U, D, hdx, hp, hU⟩ := h.ex
  have hlt := (List.getElem?_eq_some_iff.1 hx).1
  have hpl : (pieces (L.take i)).length = i := by simp [pieces]; omega
  have hdl := hd.blen
  have hr : Rd wr (fun k => ¬ U k) 1 x.A x.n (bs x.d) := ((hd.lt (by omega)).keep fun b hb hlt => h.be.block b hb.2).mono fun b hb hu => by have := hU b hu; omega
  have hw := write_any (50 * i : Nat) x.A x.n x.m x.d wr hdx hr (by unfold I64; omega) (by omega) (by rw [hp.q, spread_len, hpl]; omega)
  obtain ⟨e0, hp2⟩ := pre_write (x := x.d) hp (by omega) (by omega)
  rw [hpl] at e0 hp2
  rw [show (50 * (i : Int)) = ((50 * i : Nat) : Int) by push_cast; rfl]
  refine hw.mono ?_
  rintro e w' ⟨rfl, U', hx', hl', hk'⟩
  refine ⟨by rw [e0]; rfl, ⟨U', _, hx', ?_, fun b hb => ?_⟩, h.be.trans (hk'.below hU h.be.size), ?_⟩
  · rw [pieces_take hx]
    unfold pieces at hp2 ⊢
    rw [List.map_append]
    exact hp2
  · rcases hl' b hb with h1 | h1
    · exact hU b h1
    · exact Nat.le_trans h.be.size h1
  · rw [pieces_take hx]
    intro y hy
    rcases List.mem_append.1 hy with h1 | h1
    · exact h.le y h1
    · obtain rfl := List.mem_singleton.1 h1
      omega
/-- A disk of ours when the power is back. -/
structure PostI (w : World) (l : List (List UInt8)) (keep : List Int) (g : Nat) (wr : World) : Prop where
  ex : ∃ U D, DX wr U g (D.started keep) 1000 ∧ PreD D l
  be : Below w.heap.size w wr
theorem PostI.below {w wr W' : World} {l : List (List UInt8)} {keep : List Int} {g : Nat} (h : PostI w l keep g wr) (hb : Below wr.heap.size wr W') : PostI w l keep g W' := by
  obtain ⟨U, D, h1, h2⟩ := h.ex
  exact ⟨⟨U, D, h1.below hb, h2⟩, h.be.trans (hb.mono h.be.size)⟩
theorem pre_start {w wr w2 : World} {L : List Br} {N g : Nat} {A : Option Addr} {n c : Nat} {keep : List Int} (h : PreI w L N g wr) (hN : N ≤ 20) (hb : Below wr.heap.size wr w2) (hr : Rd w2 T 1 A n (ii keep)) (hk : ∀ z ∈ keep, I64 z) :
    Calls Try.prog 8 #[.pointer (some ⟨g, 0, none⟩), .slice A n c] w2 (fun e w' => e = .returned (.tuple #[]) ∧ PostI w (pieces (L.take N)) keep g w') := by
  obtain ⟨U, D, hdx, hp, hU⟩ := h.ex
  have hpl : (pieces (L.take N)).length ≤ 20 := by simp [pieces]; omega
  refine (start_any A n c keep w2 (hdx.below hb) hr hk (by rw [hp.q, spread_len]; omega)).mono ?_
  rintro e w' ⟨rfl, U', hx', hl', hk'⟩
  have hb2 := h.be.trans (hb.mono h.be.size)
  exact ⟨rfl, ⟨U', D, hx', hp⟩, hb2.trans (hk'.below hU hb2.size)⟩
def PieceRead (W : World) (l : List (List UInt8)) (keep : List Int) (i n : Nat) (e : Ending) (w' : World) : Prop := ∃ A c bl, e = .returned (.tuple #[.slice A n c, .nilIface]) ∧ Rd w' T 1 A n (bs bl) ∧ (∀ j, j < n → bl.getD j 0 = img (keptP l keep) i j) ∧ Below W.heap.size W w'
theorem post_read {w wr : World} {l : List (List UInt8)} {keep : List Int} {i g n : Nat} {x : List UInt8} (h : PostI w l keep g wr) (hl : l.length ≤ 20) (h40 : ∀ x ∈ l, x.length ≤ 40) (hx : l[i]? = some x) (hxn : x.length = n) :
    Calls Try.prog 10 #[.pointer (some ⟨g, 0, none⟩), .int .i64 (50 * (i : Int)), .int .i64 n] wr (PieceRead wr l keep i n) := by
  obtain ⟨U, D, hdx, hp⟩ := h.ex
  have hil := (List.getElem?_eq_some_iff.1 hx).1
  have hxl := h40 x (List.mem_of_getElem? hx)
  obtain ⟨bl, e1, e2, e3⟩ := pre_read (keep := keep) hp hl h40 hx
  have hrd := read_any (50 * i : Nat) x.length wr hdx (by unfold I64; omega) (by unfold I64; omega)
  rw [e1, hxn] at hrd
  rw [hxn] at e2 e3
  rw [show (50 * (i : Int)) = ((50 * i : Nat) : Int) by push_cast; rfl]
  refine hrd.mono ?_
  rintro e w' ⟨A, c, rfl, r, hb⟩
  dsimp only at r ⊢
  rw [e2] at r ⊢
  exact ⟨A, c, bl, rfl, r.any, e3, hb⟩
theorem pieces_get {L : List Br} {N i : Nat} {x : Br} (hx : L[i]? = some x) (hi : i < N) : (pieces (L.take N))[i]? = some x.d := by
  unfold pieces
  rw [List.getElem?_map, List.getElem?_take, if_pos hi, hx]
  rfl
set_option maxHeartbeats 6400000 in
theorem prefix_walk (A : Option Addr) (n c : Nat) (L : List Br) (K : Option Addr) (kn kc : Nat) (keep : List Int) (w : World) (hr : Rd w T 1 A n (flat brcell L)) (hd : BDat w L) (hk : Rd w T 1 K kn (ii keep)) (hki : ∀ z ∈ keep, I64 z) (hkn : kn * 8 ≤ 140737488351232) :
    Calls Try.prog 3 #[.slice A n c, .slice K kn kc] w (YesPost w) := by
  have hL := hr.flen brcell_len (by omega)
  obtain ⟨N, hN⟩ : ∃ N, N = min n 20 := ⟨_, rfl⟩
  have hNn : N ≤ n := by omega
  have hN20 : N ≤ 20 := by omega
  have hmin : min (n : Int) 20 = (N : Int) := by omega
  clear hN
  have hnew : Calls Try.prog 5 #[.int .i64 1000] w (NewPost w 1000) := new_any 1000 (by omega) (by omega) w
  have Hr := Lib.hid hr
  have Hd := Lib.hid hd
  have Hk := Lib.hid hk
  have Hki := Lib.hid hki
  have HL := Lib.hid hL
  have Hkn := Lib.hid hkn
  clear hr hd hk hki hL hkn
  go_enter Try.func3, Try.ntmps3
  go_wp2_with fail
  refine hnew.mono ?_
  rintro e w1 ⟨U, g, rfl, hx, hU, hb1⟩
  have hi0 : PreI w L 0 g w1 := ⟨⟨U, _, hx, pre_new, hU⟩, hb1, fun x hx => by cases hx⟩
  have Hi0 := Lib.hid hi0
  clear hx hU hb1 hi0
  obtain ⟨wq, rfl⟩ : ∃ wq, wq = w1 := ⟨_, rfl⟩
  go_upto_region 4 with (fail)
  go_cut [7] (fun s7 W => s7 = .int .i64 (N : Nat) ∧ W = wq)
  case first =>
    go_wp2_with fail
    all_goals
      go_meet
      case rel => exact ⟨by congr 1; omega, rfl⟩
  case rest =>
  obtain ⟨rfl, rfl⟩ := hcut
  go_wp2_with fail
  go_loopg [8] N (fun m s8 wr => ∃ i, m = N - i ∧ i ≤ N ∧ s8 = .int .i64 (i : Nat) ∧ PreI w L i g wr)
  case atStart => exact ⟨0, by omega, by omega, rfl, Hi0.out⟩
  case round =>
    obtain ⟨i, hm, hi, rfl, hpi⟩ := hrel
    have Hm := Lib.hid hm
    have Hp := Lib.hid hpi
    clear hm hpi
    by_cases hlt : i < N
    · obtain ⟨b, o, x, rfl, _, hbl, hx, hc0⟩ := br_cells (Hr.out.below Hp.out.be) (show i < n by omega)
      have hiN : (i : Int) < N := by omega
      have hin : (i : Int) < n := by omega
      have h0i : (0 : Int) ≤ i := by omega
      have hxd := Hd.out x (List.mem_of_getElem? hx)
      by_cases h40 : x.n ≤ 40
      · have h40I : (x.n : Int) ≤ 40 := by omega
        have h40d : decide ((40 : Int) < x.n) = false := by simp; omega
        have hstep := pre_step Hp.out hx (by omega) h40 hxd.1
        have wmul : IntKind.i64.wrap (50 * (i : Int)) = 50 * (i : Int) := by rw [IntKind.wrap_i64]; omega
        have Hstep := Lib.hid hstep
        clear hstep hxd hx
        go_wp2_with fail
        refine Hstep.out.mono ?_
        rintro e w2 ⟨rfl, hp2⟩
        have Hp2 := Lib.hid hp2
        clear hp2 hc0
        go_wp2_with fail
        go_roundg (N - (i + 1))
        case measure => have := Hm.out; omega
        case rel => exact ⟨i + 1, rfl, by omega, by go_num, Hp2.out⟩
      · have h40d : decide ((40 : Int) < x.n) = true := by simp; omega
        have h40I : (40 : Int) < x.n := by omega
        have hsure := sure_any wr
        have Hsure := Lib.hid hsure
        clear hsure hxd hx
        go_wp2_with fail
        refine Hsure.out.mono ?_
        rintro e w2 ⟨rfl, hb2⟩
        go_wp2_with fail
        go_ret
        exact ⟨rfl, Hp.out.be.trans (hb2.mono Hp.out.be.size)⟩
    · obtain rfl : i = N := by omega
      have hown := own_any K kn kc keep wr (Hk.out.below Hp.out.be) Hkn.out
      have hst := fun w2 (hb : Below wr.heap.size wr w2) A2 c2 (hr : Rd w2 (wr.heap.size ≤ ·) 1 A2 kn (ii keep)) => pre_start (c := c2) Hp.out hN20 hb hr.any Hki.out
      obtain ⟨l, hl⟩ : ∃ l, l = pieces (L.take i) := ⟨_, rfl⟩
      rw [← hl] at hst
      obtain ⟨M, hM⟩ := keptP_img (l := l) (keep := keep)
      have hll : l.length ≤ 20 := by rw [hl]; simp [pieces]; omega
      have hl40 : ∀ x ∈ l, x.length ≤ 40 := by
        rw [hl]
        intro x hx
        obtain ⟨y, hy, rfl⟩ := List.mem_map.1 hx
        exact Hp.out.le y hy
      have Hl := Lib.hid hl
      have HM := Lib.hid hM
      have Hll := Lib.hid hll
      have Hl40 := Lib.hid hl40
      have Hst := Lib.hid hst
      have Hown := Lib.hid hown
      clear hl hM hll hl40 hst hown
      go_wp2_with fail
      refine Hown.out.mono ?_
      rintro e w2 ⟨A2, c2, rfl, r2, hb2⟩
      have hst2 := Hst.out w2 hb2 A2 c2 r2
      have Hst2 := Lib.hid hst2
      clear hst2 r2 hb2
      go_wp2_with fail
      refine Hst2.out.mono ?_
      rintro e w3 ⟨rfl, hp3⟩
      have Hp3 := Lib.hid hp3
      clear hp3
      obtain ⟨N, rfl⟩ : ∃ N, N = i := ⟨_, rfl⟩
      go_wp2_with fail
      go_loopg [9, 10] N (fun m s9 s10 wr => ∃ (i : Nat) (pb : Bool), m = N - i ∧ i ≤ N ∧ s10 = .int .i64 (i : Nat) ∧ s9 = .bool pb ∧ (pb = true → M < i) ∧ PostI w l keep g wr)
      case atStart => exact ⟨0, false, by omega, by omega, rfl, rfl, by simp, Hp3.out⟩
      case round =>
        obtain ⟨i, pb, hm, hi, rfl, rfl, hpb, hpi⟩ := hrel
        have Hm2 := Lib.hid hm
        have Hp4 := Lib.hid hpi
        have Hpb := Lib.hid hpb
        clear hm hpi hpb
        by_cases hlt : i < N
        · obtain ⟨b, o, x, rfl, _, hbl, hx, hc0⟩ := br_cells (Hr.out.below Hp4.out.be) (show i < n by omega)
          have hiN : (i : Int) < N := by omega
          have hin : (i : Int) < n := by omega
          have h0i : (0 : Int) ≤ i := by omega
          have hxd := (Hd.out x (List.mem_of_getElem? hx)).1
          have hxl := hxd.blen
          have hlx : l[i]? = some x.d := by rw [Hl.out]; exact pieces_get hx hlt
          obtain ⟨r, hr1, hr2, hr3, hr4, hr5⟩ := HM.out i x.d hlx
          have hx40 : x.n ≤ 40 := by rw [← hxl]; exact Hl40.out _ (List.mem_of_getElem? hlx)
          have hrd := post_read Hp4.out Hll.out Hl40.out hlx hxl
          have wmul : IntKind.i64.wrap (50 * (i : Int)) = 50 * (i : Int) := by rw [IntKind.wrap_i64]; omega
          have Hrd := Lib.hid hrd
          have Hr2 := Lib.hid hr2
          have Hr3 := Lib.hid hr3
          have Hr4 := Lib.hid hr4
          have Hr5 := Lib.hid hr5
          have Hxd := Lib.hid (hxd.below Hp4.out.be)
          have Hxl := Lib.hid hxl
          clear hrd hr2 hr3 hr4 hr5 hxd hx hlx hxl
          go_wp2_with fail
          refine Hrd.out.mono ?_
          rintro e w5 ⟨A5, c5, bl, rfl, r5, hbl5, hb5⟩
          have hc1 : w5.cell? ⟨b, o + i, none⟩ = some (.slice x.A x.n x.m) := by rw [hb5.cell (p := ⟨b, o + i, none⟩) hbl]; exact hc0
          have hxd5 := Hxd.out.below hb5
          have Hb5 := Lib.hid hb5
          have Hbl5 := Lib.hid hbl5
          have R5 := Lib.hid r5
          have Hx5 := Lib.hid hxd5
          clear hb5 hbl5 r5 hxd5 hc0
          go_wp2_with fail
          go_loopg [13] x.n (fun m s13 w6 => ∃ k, m = x.n - k ∧ k ≤ x.n ∧ s13 = .int .i64 (k : Nat) ∧ (∀ j, j < k → bl.getD j 0 = x.d.getD j 0) ∧ Below w5.heap.size w5 w6)
          case atStart => exact ⟨0, by omega, by omega, rfl, by intro j hj; omega, Below.refl _ _⟩
          case round =>
            obtain ⟨k, hm, hk, rfl, heq, hb6⟩ := hrel
            obtain ⟨w6, rfl⟩ : ∃ w6, w6 = wr := ⟨_, rfl⟩
            have Hm3 := Lib.hid hm
            have Heq := Lib.hid heq
            have Hb6 := Lib.hid hb6
            clear hm heq hb6
            by_cases hkn : k < x.n
            · obtain ⟨b5, o5, rfl, _, hl5, hcs5⟩ := R5.out.plain (by omega) (by omega)
              obtain ⟨b6, o6, hxA, _, hl6, hcs6⟩ := Hx5.out.plain (by omega) (by omega)
              have hbln := R5.out.blen
              have hxln := Hxl.out
              have hc2 : w6.cell? ⟨b, o + i, none⟩ = some (.slice x.A x.n x.m) := by rw [Hb6.out.cell (p := ⟨b, o + i, none⟩) (by have := World.block_lt_of_cell? _ _ hc1; exact this)]; exact hc1
              rw [hxA] at hc2
              obtain ⟨u, hu⟩ : ∃ u : Nat, u = (bl.getD k 0).toNat := ⟨_, rfl⟩
              obtain ⟨v, hv⟩ : ∃ v : Nat, v = (x.d.getD k 0).toNat := ⟨_, rfl⟩
              have hd5 : w6.cell? ⟨b5, o5 + k, none⟩ = some (.int .u8 (u : Int)) := by
                rw [Hb6.out.cell (p := ⟨b5, o5 + k, none⟩) hl5, hu]
                refine hcs5 k _ ?_
                rw [bs_get _ k (by omega), List.getD_eq_getElem?_getD, List.getElem?_eq_getElem (by omega)]
                rfl
              have hd6 : w6.cell? ⟨b6, o6 + k, none⟩ = some (.int .u8 (v : Int)) := by
                rw [Hb6.out.cell (p := ⟨b6, o6 + k, none⟩) hl6, hv]
                refine hcs6 k _ ?_
                rw [bs_get _ k (by omega), List.getD_eq_getElem?_getD, List.getElem?_eq_getElem (by omega)]
                rfl
              have hknI : (k : Int) < x.n := by omega
              have h0k : (0 : Int) ≤ k := by omega
              have hkd : decide ((k : Int) < x.n) = true := by simp; omega
              have Hu := Lib.hid hu
              have Hv := Lib.hid hv
              clear hcs5 hcs6 hu hv hxA
              by_cases huv : u = v
              · subst huv
                go_wp2_with fail
                go_quiet (fail)
                go_wp2_with fail
                go_roundg (x.n - (k + 1))
                case measure => have := Hm3.out; omega
                case rel =>
                  refine ⟨k + 1, rfl, Nat.succ_le_of_lt hkn, by go_num, fun j hj => ?_, below_drewN Hb6.out _⟩
                  have hjk1 : j < k + 1 := hj
                  by_cases hjk : j < k
                  · exact Heq.out j hjk
                  · obtain rfl : j = k := by omega
                    exact UInt8.toNat_inj.1 (Hu.out.symm.trans Hv.out)
              · have hrk : r ≤ k := Nat.le_of_not_lt fun h => huv (by rw [Hu.out, Hv.out, Hbl5.out k hkn, Hr2.out k h])
                have huvI : ((u : Int) == (v : Int)) = false := by simp; omega
                go_wp2_with fail
                go_quiet (fail)
                have zero : ∀ j, r ≤ j → j < x.n → bl.getD j 0 = 0 := fun j h1 h2 => by rw [Hbl5.out j h2]; exact Hr3.out j h1
                have Zero := Lib.hid zero
                have hMi : k < x.n → M ≤ i := fun h => Nat.le_of_not_lt fun h2 => by have := Hr4.out h2; have := Hxl.out; omega
                have HMi := Lib.hid hMi
                have Hrk := Lib.hid hrk
                clear zero hMi hrk
                go_wp2_with fail
                go_loopg [14] (x.n - k) (fun m s14 w8 => ∃ j, m = x.n - j ∧ k ≤ j ∧ j ≤ x.n ∧ s14 = .int .i64 (j : Nat) ∧ Below w5.heap.size w5 w8)
                case atStart => exact ⟨k, rfl, Nat.le_refl _, by omega, rfl, below_drewN Hb6.out _⟩
                case round =>
                  obtain ⟨j, hm, hkj, hj, rfl, hb8⟩ := hrel
                  obtain ⟨w8, rfl⟩ : ∃ w8, w8 = wr := ⟨_, rfl⟩
                  have Hm4 := Lib.hid hm
                  have Hb8 := Lib.hid hb8
                  clear hm hb8
                  by_cases hjn : j < x.n
                  · obtain ⟨b7, o7, e7, _, hl7, hcs7⟩ := R5.out.plain (by omega) (by omega)
                    injection e7 with e7
                    injection e7 with e7a e7b _
                    rw [← e7a] at hl7 hcs7
                    rw [← e7b] at hcs7
                    clear e7a e7b
                    have hz := Zero.out j (by have := Hrk.out; omega) hjn
                    have hbln := R5.out.blen
                    have hd7 : w8.cell? ⟨b5, o5 + j, none⟩ = some (.int .u8 0) := by
                      rw [Hb8.out.cell (p := ⟨b5, o5 + j, none⟩) hl7]
                      refine hcs7 j _ ?_
                      rw [bs_get _ j (by omega)]
                      rw [List.getD_eq_getElem?_getD, List.getElem?_eq_getElem (by omega)] at hz
                      have hz' : bl[j]'(by omega) = 0 := hz
                      rw [hz']
                      rfl
                    have hjnI : (j : Int) < x.n := by omega
                    have h0j : (0 : Int) ≤ j := by omega
                    clear hcs7 hz
                    go_wp2_with fail
                    go_roundg (x.n - (j + 1))
                    case measure => have := Hm4.out; omega
                    case rel => exact ⟨j + 1, rfl, by omega, by omega, by go_num, Hb8.out⟩
                  · obtain rfl : j = x.n := by omega
                    cases pb with
                    | false =>
                      have hKI : (k : Int) < x.n := by omega
                      have hKd : decide ((k : Int) < x.n) = true := by simp; omega
                      go_wp2_with fail
                      go_roundg (N - (i + 1))
                      case measure => have := Hm2.out; omega
                      case rel => exact ⟨i + 1, true, rfl, by omega, by go_num, rfl, fun _ => Nat.lt_succ_of_le (HMi.out hkn), Hp4.out.below (Hb5.out.trans (Hb8.out.mono Hb5.out.size))⟩
                    | true =>
                      have hr0 : r = 0 := Hr5.out (by simpa using Hpb.out)
                      have Hr0 := Lib.hid hr0
                      clear hr0
                      go_wp2_with fail
                      go_loopg [15] x.n (fun m s15 w9 => ∃ j, m = x.n - j ∧ j ≤ x.n ∧ s15 = .int .i64 (j : Nat) ∧ Below w5.heap.size w5 w9)
                      case atStart => exact ⟨0, by omega, by omega, rfl, Hb8.out⟩
                      case round =>
                        obtain ⟨j, hm, hj, rfl, hb9⟩ := hrel
                        obtain ⟨w9, rfl⟩ : ∃ w9, w9 = wr := ⟨_, rfl⟩
                        have Hm5 := Lib.hid hm
                        have Hb9 := Lib.hid hb9
                        clear hm hb9
                        by_cases hjn : j < x.n
                        · obtain ⟨b7, o7, e7, _, hl7, hcs7⟩ := R5.out.plain (by omega) (by omega)
                          injection e7 with e7
                          injection e7 with e7a e7b _
                          rw [← e7a] at hl7 hcs7
                          rw [← e7b] at hcs7
                          clear e7a e7b
                          have hz := Zero.out j (by have := Hr0.out; omega) hjn
                          have hbln := R5.out.blen
                          have hd7 : w9.cell? ⟨b5, o5 + j, none⟩ = some (.int .u8 0) := by
                            rw [Hb9.out.cell (p := ⟨b5, o5 + j, none⟩) hl7]
                            refine hcs7 j _ ?_
                            rw [bs_get _ j (by omega)]
                            rw [List.getD_eq_getElem?_getD, List.getElem?_eq_getElem (by omega)] at hz
                            have hz' : bl[j]'(by omega) = 0 := hz
                            rw [hz']
                            rfl
                          have hjnI : (j : Int) < x.n := by omega
                          have h0j : (0 : Int) ≤ j := by omega
                          clear hcs7 hz
                          go_wp2_with fail
                          go_roundg (x.n - (j + 1))
                          case measure => have := Hm5.out; omega
                          case rel => exact ⟨j + 1, rfl, by omega, by go_num, Hb9.out⟩
                        · obtain rfl : j = x.n := by omega
                          go_wp2_with fail
                          go_roundg (N - (i + 1))
                          case measure => have := Hm2.out; omega
                          case rel => exact ⟨i + 1, true, rfl, by omega, by go_num, rfl, fun _ => Nat.lt_succ_of_lt (by simpa using Hpb.out), Hp4.out.below (Hb5.out.trans (Hb9.out.mono Hb5.out.size))⟩
            · obtain rfl : k = x.n := by omega
              have hrk : r ≤ x.n := by have := Hxl.out; omega
              go_wp2_with fail
              go_quiet (fail)
              have zero : ∀ j, r ≤ j → j < x.n → bl.getD j 0 = 0 := fun j h1 h2 => by rw [Hbl5.out j h2]; exact Hr3.out j h1
              have Zero := Lib.hid zero
              have hMi : x.n < x.n → M ≤ i := fun h => Nat.le_of_not_lt fun h2 => by have := Hr4.out h2; have := Hxl.out; omega
              have HMi := Lib.hid hMi
              have Hrk := Lib.hid hrk
              clear zero hMi hrk
              go_wp2_with fail
              go_loopg [14] (x.n - x.n) (fun m s14 w8 => ∃ j, m = x.n - j ∧ x.n ≤ j ∧ j ≤ x.n ∧ s14 = .int .i64 (j : Nat) ∧ Below w5.heap.size w5 w8)
              case atStart => exact ⟨x.n, rfl, Nat.le_refl _, by omega, rfl, below_drewN Hb6.out _⟩
              case round =>
                obtain ⟨j, hm, hkj, hj, rfl, hb8⟩ := hrel
                obtain ⟨w8, rfl⟩ : ∃ w8, w8 = wr := ⟨_, rfl⟩
                have Hm4 := Lib.hid hm
                have Hb8 := Lib.hid hb8
                clear hm hb8
                by_cases hjn : j < x.n
                · obtain ⟨b7, o7, e7, _, hl7, hcs7⟩ := R5.out.plain (by omega) (by omega)
                  subst e7
                  have hz := Zero.out j (by have := Hrk.out; omega) hjn
                  have hbln := R5.out.blen
                  have hd7 : w8.cell? ⟨b7, o7 + j, none⟩ = some (.int .u8 0) := by
                    rw [Hb8.out.cell (p := ⟨b7, o7 + j, none⟩) hl7]
                    refine hcs7 j _ ?_
                    rw [bs_get _ j (by omega)]
                    rw [List.getD_eq_getElem?_getD, List.getElem?_eq_getElem (by omega)] at hz
                    have hz' : bl[j]'(by omega) = 0 := hz
                    rw [hz']
                    rfl
                  have hjnI : (j : Int) < x.n := by omega
                  have h0j : (0 : Int) ≤ j := by omega
                  clear hcs7 hz
                  go_wp2_with fail
                  go_roundg (x.n - (j + 1))
                  case measure => have := Hm4.out; omega
                  case rel => exact ⟨j + 1, rfl, by omega, by omega, by go_num, Hb8.out⟩
                · obtain rfl : j = x.n := by omega
                  cases pb with
                  | false =>
                    go_wp2_with fail
                    go_roundg (N - (i + 1))
                    case measure => have := Hm2.out; omega
                    case rel => exact ⟨i + 1, false, rfl, by omega, by go_num, rfl, (fun h => by cases h), Hp4.out.below (Hb5.out.trans (Hb8.out.mono Hb5.out.size))⟩
                  | true =>
                    have hr0 : r = 0 := Hr5.out (by simpa using Hpb.out)
                    have Hr0 := Lib.hid hr0
                    clear hr0
                    go_wp2_with fail
                    go_loopg [15] x.n (fun m s15 w9 => ∃ j, m = x.n - j ∧ j ≤ x.n ∧ s15 = .int .i64 (j : Nat) ∧ Below w5.heap.size w5 w9)
                    case atStart => exact ⟨0, by omega, by omega, rfl, Hb8.out⟩
                    case round =>
                      obtain ⟨j, hm, hj, rfl, hb9⟩ := hrel
                      obtain ⟨w9, rfl⟩ : ∃ w9, w9 = wr := ⟨_, rfl⟩
                      have Hm5 := Lib.hid hm
                      have Hb9 := Lib.hid hb9
                      clear hm hb9
                      by_cases hjn : j < x.n
                      · obtain ⟨b7, o7, e7, _, hl7, hcs7⟩ := R5.out.plain (by omega) (by omega)
                        subst e7
                        have hz := Zero.out j (by have := Hr0.out; omega) hjn
                        have hbln := R5.out.blen
                        have hd7 : w9.cell? ⟨b7, o7 + j, none⟩ = some (.int .u8 0) := by
                          rw [Hb9.out.cell (p := ⟨b7, o7 + j, none⟩) hl7]
                          refine hcs7 j _ ?_
                          rw [bs_get _ j (by omega)]
                          rw [List.getD_eq_getElem?_getD, List.getElem?_eq_getElem (by omega)] at hz
                          have hz' : bl[j]'(by omega) = 0 := hz
                          rw [hz']
                          rfl
                        have hjnI : (j : Int) < x.n := by omega
                        have h0j : (0 : Int) ≤ j := by omega
                        clear hcs7 hz
                        go_wp2_with fail
                        go_roundg (x.n - (j + 1))
                        case measure => have := Hm5.out; omega
                        case rel => exact ⟨j + 1, rfl, by omega, by go_num, Hb9.out⟩
                      · obtain rfl : j = x.n := by omega
                        go_wp2_with fail
                        go_roundg (N - (i + 1))
                        case measure => have := Hm2.out; omega
                        case rel => exact ⟨i + 1, true, rfl, by omega, by go_num, rfl, fun _ => Nat.lt_succ_of_lt (by simpa using Hpb.out), Hp4.out.below (Hb5.out.trans (Hb9.out.mono Hb5.out.size))⟩
        · obtain rfl : i = N := by omega
          have hsure := sure_any wr
          have Hsure := Lib.hid hsure
          clear hsure
          go_wp2_with fail
          refine Hsure.out.mono ?_
          rintro e w5 ⟨rfl, hb5⟩
          go_wp2_with fail
          go_ret
          exact ⟨rfl, Hp4.out.be.trans (hb5.mono Hp4.out.be.size)⟩
end Go.Proofs.Ytefhkhocbcnbcaa
