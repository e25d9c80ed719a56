/- Walk: (*group).text of the law.
   Plain: what may be done with the group
   Walk: (*group).deed of the law: a tick; a message is heard
   Walk: (*group).deed of the law: a message is lost
   Walk: (*group).deed of the law: an entry is proposed
   Plain law: where somebody would stand among the members. -/
import Derived.Test.YtmhaahcbmdhinaaGreatDoorZM32
import Derived.Test.YtmhaahcbmdhinaaGreatDoorZM34
import Derived.Test.YtmhaahcbmdhinaaGreatDoorZM33
import Derived.Test.YtmhaahcbmdhinaaGreatDoorZM0
namespace Go.Proofs.YtmhaahcbmdhinaaGreatDoor
open Go.RowKit
set_option maxRecDepth 100000
set_option linter.unusedVariables false
set_option linter.unusedSimpArgs false
def tbyte (e : En) : UInt8 := if 0 < e.d.length ∧ e.c ≠ 2 then e.d.getD 0 0 else 0
def textB (D : List En) (ix : Int) : List UInt8 := (D.take ix.toNat).map tbyte
def TextPost (W : World) (t : List UInt8) (e : Ending) (w' : World) : Prop := ∃ A n c, e = .returned (.slice A n c) ∧ w'.ownsRow W.heap.size 5 1 (.slice A n c) n (bs t) ∧ Below W.heap.size W w'
set_option maxHeartbeats 3200000 in
theorem text_any (gb k : Nat) (ix : Int) (cells : Array Value) (A : Option Addr) (n c : Nat) (L : List Er) (w : World) (hb : Bx w gb cells) (h9 : cells[9 + k]? = some (.slice A n c)) (hk : k < 7) (hr : Rd w T 4 A n (flat ecell L)) (hd : Dat w L) (hn : n ≤ 1000000) :
  Calls Tryz.prog 77 #[.pointer (some ⟨gb, 0, none⟩), .int .i64 k, .int .i64 ix] w (TextPost w (textB (L.map en) ix)) := by
 have hlen := hr.flen ecell_len (by omega)
 have hdn : Hid (∀ y ∈ L, y.d.length = y.n) := Lib.hid fun y hy => (hd y hy).1.blen
 have H := Lib.hid (And.intro hb (And.intro h9 (And.intro hr (And.intro hd hlen))))
 clear hb h9 hr hd hlen
 have hk0 : (0 : Int) ≤ (k : Int) := by omega
 have hk7 : (k : Int) < 7 := by omega
 go_enter Tryz.func77, Tryz.ntmps77
 go_wp2_with fail
 go_loopg [7, 8, 9] n (fun gm s7 s8 s9 wr => ∃ (j : Nat) (A1 : Option Addr) (c1 : Nat), gm = n - j ∧ j ≤ n ∧ s7 = .slice A1 j c1 ∧ s8 = .int .i64 j ∧ (j : Int) ≤ max 0 ix ∧ wr.ownsRow w.heap.size 5 1 (.slice A1 j c1) j (bs (((L.map en).take j).map tbyte)) ∧ Below w.heap.size w wr)
 case atStart => exact ⟨0, none, 0, by omega, by omega, rfl, rfl, by omega, World.ownsRow_nil _ _ _ _, Below.refl _ _⟩
 case round =>
  obtain ⟨j, A1, c1, hm, hj, rfl, rfl, hix, ho, hbe⟩ := hrel
  have R := Lib.hid (And.intro hm (And.intro hix (And.intro ho hbe)))
  have kc := (H.out.1.below hbe).c (9 + k)
  rw [H.out.2.1] at kc
  clear hm hix ho
  by_cases hlt : (j : Int) < ix
  ·have hltI : decide ((j : Int) < ix) = true := decide_eq_true hlt
   by_cases hjn : j < n
   ·have hjI : decide ((j : Int) < (n : Int)) = true := decide_eq_true (by omega)
    have hj2 : (j : Int) < (n : Int) := by omega
    have h0j : (0 : Int) ≤ (j : Int) := by omega
    obtain ⟨b, o, y, rfl, _, hbl, hy, d0, d1, d2, d3⟩ := er_cells (H.out.2.2.1.below hbe) hjn
    have hym : y ∈ L := List.mem_of_getElem? hy
    have hyn : y.d.length = y.n := hdn.out y hym
    have hyd := ((H.out.2.2.2.1.below hbe) y hym).1
    have hj3 : Hid (((L.map en).take (j + 1)).map tbyte = (((L.map en).take j).map tbyte) ++ [tbyte (en y)]) := Lib.hid (by
     rw [List.take_add_one, List.getElem?_map, hy]
     simp)
    have Y := Lib.hid (And.intro hyd hyn)
    clear hy hym hyd hyn hbl hbe
    by_cases hd0 : 0 < y.n
    ·have hd0I : decide ((0 : Int) < (y.n : Int)) = true := decide_eq_true (by omega)
     by_cases hc2 : y.c = 2
     ·have hc2I : (y.c != 2) = false := by simp [hc2]
      have hby : Hid (tbyte (en y) = 0) := Lib.hid (by unfold tbyte; rw [if_neg (fun h => h.2 hc2)])
      clear hc2
      go_wp2_with (at_builtin; refine wpList_append_any (news := [.int .u8 0]) _ Tryz.underlying26 u8_elem rfl (by omega) rfl rfl rfl ((R.out.2.2.1.alloc _).drew) rfl ((Rd.blit (cs := #[.int .u8 0]) rfl).drew).any (by intro u hu; rw [List.mem_singleton.1 hu]; rfl) (by omega) (by have := R.out.2.2.2.size; simp; omega) rfl rfl ?_; intro A2 c2 w2 o2 g2 hat2)
      go_roundg (n - (j + 1))
      case measure => have := R.out.1; omega
      case rel =>
       refine ⟨j + 1, A2, c2, rfl, by omega, rfl, by go_num, by omega, ?_, (R.out.2.2.2.alloc R.out.2.2.2.size _).grown g2 (by have := R.out.2.2.2.size; simp; omega) (fun q hq => (own_lt R.out.2.2.1 q hq).1)⟩
       rw [hj3.out, hby.out, bs_append]
       exact o2
     ·have hc2I : (y.c != 2) = true := by simpa using hc2
      have hby : Hid (tbyte (en y) = y.d.getD 0 0) := Lib.hid (by unfold tbyte; rw [if_pos ⟨by show 0 < y.d.length; rw [Y.out.2]; exact hd0, hc2⟩]; rfl)
      obtain ⟨b2, o2, hA, _, _, hcell⟩ := Y.out.1.plain hd0 (by omega)
      have d4 : wr.cell? ⟨b2, o2, none⟩ = some (.int .u8 ((y.d.getD 0 0).toNat : Int)) := by
       have h9 : (bs y.d)[0]? = some (.int .u8 ((y.d.getD 0 0).toNat : Int)) := by
        have h8 : 0 < y.d.length := by rw [Y.out.2]; exact hd0
        rw [bs_get _ _ h8]
        simp [List.getD_eq_getElem?_getD, h8]
       simpa using hcell 0 _ h9
      rw [hA] at d3
      obtain ⟨zz, hzz⟩ : ∃ zz, zz = y.d.getD 0 0 := ⟨_, rfl⟩
      rw [← hzz] at d4 hby
      obtain ⟨zi, hzi⟩ : ∃ zi : Int, zi = (zz.toNat : Int) := ⟨_, rfl⟩
      rw [← hzi] at d4
      have hbz : Hid (bs [zz] = [.int .u8 zi]) := Lib.hid (by rw [hzi]; rfl)
      have hd00 : (0 : Int) < (y.n : Int) := by omega
      clear hc2 hA hcell hzz hzi
      go_wp2_with (at_builtin; refine wpList_append_any (news := [.int .u8 zi]) _ Tryz.underlying26 u8_elem rfl (by omega) rfl rfl rfl ((R.out.2.2.1.alloc _).drew) rfl ((Rd.blit (cs := #[.int .u8 zi]) rfl).drew).any (by intro u hu; rw [List.mem_singleton.1 hu]; rfl) (by omega) (by have := R.out.2.2.2.size; simp; omega) rfl rfl ?_; intro A2 c2 w2 o2 g2 hat2)
      go_roundg (n - (j + 1))
      case measure => have := R.out.1; omega
      case rel =>
       refine ⟨j + 1, A2, c2, rfl, by omega, rfl, by go_num, by omega, ?_, (R.out.2.2.2.alloc R.out.2.2.2.size _).grown g2 (by have := R.out.2.2.2.size; simp; omega) (fun q hq => (own_lt R.out.2.2.1 q hq).1)⟩
       rw [hj3.out, hby.out, bs_append, hbz.out]
       exact o2
    ·have hd0I : decide (0 < y.n) = false := decide_eq_false (by omega)
     have hby : Hid (tbyte (en y) = 0) := Lib.hid (by unfold tbyte; rw [if_neg (fun h => hd0 (by have := h.1; rw [← Y.out.2]; exact this))])
     clear hd0
     go_wp2_with (at_builtin; refine wpList_append_any (news := [.int .u8 0]) _ Tryz.underlying26 u8_elem rfl (by omega) rfl rfl rfl ((R.out.2.2.1.alloc _).drew) rfl ((Rd.blit (cs := #[.int .u8 0]) rfl).drew).any (by intro u hu; rw [List.mem_singleton.1 hu]; rfl) (by omega) (by have := R.out.2.2.2.size; simp; omega) rfl rfl ?_; intro A2 c2 w2 o2 g2 hat2)
     go_roundg (n - (j + 1))
     case measure => have := R.out.1; omega
     case rel =>
      refine ⟨j + 1, A2, c2, rfl, by omega, rfl, by go_num, by omega, ?_, (R.out.2.2.2.alloc R.out.2.2.2.size _).grown g2 (by have := R.out.2.2.2.size; simp; omega) (fun q hq => (own_lt R.out.2.2.1 q hq).1)⟩
      rw [hj3.out, hby.out, bs_append]
      exact o2
   ·have hjI : decide ((j : Int) < (n : Int)) = false := decide_eq_false (by omega)
    go_wp2_with fail
    go_ret
    refine ⟨A1, j, c1, rfl, ?_, R.out.2.2.2⟩
    have h8 := R.out.2.2.1
    have h7 : textB (L.map en) ix = ((L.map en).take j).map tbyte := by
     unfold textB
     have := R.out.2.1
     rw [List.take_of_length_le (by rw [List.length_map, H.out.2.2.2.2]; omega), List.take_of_length_le (by rw [List.length_map, H.out.2.2.2.2]; omega)]
    rw [h7]
    exact h8
  ·have hltI : decide ((j : Int) < ix) = false := decide_eq_false hlt
   go_wp2_with fail
   go_ret
   refine ⟨A1, j, c1, rfl, ?_, R.out.2.2.2⟩
   have h8 := R.out.2.2.1
   have h7 : textB (L.map en) ix = ((L.map en).take j).map tbyte := by
    unfold textB
    have := R.out.2.1
    rw [show ix.toNat = j by omega]
   rw [h7]
   exact h8
end Go.Proofs.YtmhaahcbmdhinaaGreatDoor
namespace Go.Proofs.YtmhaahcbmdhinaaGreatDoor
set_option linter.unusedVariables false
set_option linter.unusedSimpArgs false
inductive Does (n : Nat) : Gs → Gs → Prop where
 | refl (g : Gs) : Does n g g
 | trans {g g1 g2 : Gs} : Does n g g1 → Does n g1 g2 → Does n g g2
 | ticks (g : Gs) (who : Nat) (draw : Int) : who < n → (∃ k, (g.C who).Ok k) → Does n g (g.ticks who draw)
 | hears (g : Gs) (at_ : Int) (stays : Bool) (draw j : Int) : (∃ k, (∀ i, i < n → (g.C i).Ok k) ∧ k + 1 ≤ 1000000) → Does n g (g.hears n at_ stays draw j)
 | asks (g : Gs) (who : Nat) (kd : Int) (d : List UInt8) : who < n → (∃ k, (g.C who).Ok k) → Does n g (g.asks who kd d)
 | lost (g : Gs) (net : List Ms) : (∀ x ∈ net, x ∈ g.net) → Does n g { g with net := net }
 | letsGo (g : Gs) (who : Nat) : who < n → (∃ k, (g.C who).Ok k) → Does n g (g.letsGo who (g.C who).commit (textB (g.done who) (g.C who).commit))
theorem Gs.hears_done (g : Gs) (n : Nat) (at_ : Int) (stays : Bool) (draw j : Int) : (g.hears n at_ stays draw j).done = g.done ∧ (g.hears n at_ stays draw j).leads = g.leads := by
 unfold Gs.hears
 split
 ·exact ⟨rfl, rfl⟩
 ·dsimp only
  split
  ·unfold Gs.steps Gs.tells
   dsimp only
   split <;> exact ⟨rfl, rfl⟩
  ·split <;> exact ⟨rfl, rfl⟩
theorem Does.done {n : Nat} {g g' : Gs} (h : Does n g g') : g'.done = g.done ∧ g'.leads = g.leads := by
 induction h with
 | refl => exact ⟨rfl, rfl⟩
 | trans _ _ a b => exact ⟨b.1.trans a.1, b.2.trans a.2⟩
 | ticks => exact ⟨rfl, rfl⟩
 | hears => exact Gs.hears_done _ _ _ _ _ _
 | asks => exact ⟨rfl, rfl⟩
 | lost => exact ⟨rfl, rfl⟩
 | letsGo => exact ⟨rfl, rfl⟩
theorem Does.mv {n : Nat} {g g' : Gs} (h : Does n g g') : Mvs n g g' := by
 induction h with
 | refl => exact .refl _ _
 | trans _ _ a b => exact a.trans b
 | ticks => exact ticks_mv _ _ _ _
 | hears => exact hears_mv _ _ _ _ _ _
 | asks => exact asks_mv _ _ _ _ _
 | lost => exact fun _ _ => .refl _
 | letsGo => exact letsGo_mv _ _ _ _ _
def GOk (n k : Nat) (g : Gs) : Prop := ∀ i, i < n → (g.C i).Ok k
theorem GOk.mono {n k k' : Nat} {g : Gs} (h : GOk n k g) (hk : k ≤ k') (hb : k' ≤ 1000000) : GOk n k' g := fun i hi => (h i hi).mono hk hb
theorem GOk.upd {n k who : Nat} {g g' : Gs} {D : Cr} (h : GOk n k g) (hd : D.Ok k) (hc : g'.C = Go.Proofs.YtmhaahcbmdhinaaGreatDoor.upd g.C who D) : GOk n k g' := fun i hi => by
 rw [hc]
 by_cases e : i = who
 ·subst e; rw [upd_self]; exact hd
 ·rw [upd_ne e]; exact h i hi
theorem GOk.ticks {n k : Nat} {g : Gs} (h : GOk n k g) {who : Nat} (hw : who < n) (draw : Int) : GOk n k (g.ticks who draw) := h.upd ((h who hw).tick draw) rfl
theorem GOk.asks {n k : Nat} {g : Gs} (h : GOk n k g) {who : Nat} (hw : who < n) (kd : Int) (d : List UInt8) : GOk n k (g.asks who kd d) := h.upd ((h who hw).propose kd d) rfl
theorem GOk.letsGo {n k : Nat} {g : Gs} (h : GOk n k g) {who : Nat} (hw : who < n) (ix : Int) (sn : List UInt8) : GOk n k (g.letsGo who ix sn) := h.upd ((h who hw).compact ix sn) rfl
theorem GOk.hears {n k : Nat} {g : Gs} (h : GOk n k g) (hk : k + 1 ≤ 1000000) (at_ : Int) (stays : Bool) (draw j : Int) : GOk n (k + 1) (g.hears n at_ stays draw j) := by
 have hm := h.mono (k' := k + 1) (by omega) hk
 unfold Gs.hears
 split
 ·exact hm
 ·rename_i x hx
  dsimp only
  obtain ⟨g1, hg1⟩ : ∃ g1 : Gs, (if stays then g else { g with net := g.net.take (g.place at_) ++ g.net.drop (g.place at_ + 1) } : Gs) = g1 := ⟨_, rfl⟩
  have hC : g1.C = g.C := by rw [← hg1]; split <;> rfl
  rw [hg1]
  split
  ·rename_i hd
   refine GOk.upd (g := g1) (D := ((g1.C (x.dst - 1).toNat).step x draw j).1) (who := (x.dst - 1).toNat) (fun i hi => by rw [hC]; exact hm i hi) ?_ rfl
   rw [hC]
   exact (h _ hd.2.2).step hk x draw j
  ·exact fun i hi => by rw [hC]; exact hm i hi
theorem GOk.again {n k : Nat} {g : Gs} (h : GOk n k g) {who : Nat} (hw : who < n) (hn : n ≤ 60) {span : Int} (hs : 2 ≤ span ∧ span ≤ 1000) (draw : Int) : GOk n k (g.again who span draw) := by
 have ho := h who hw
 have h1 : (Cr.new ((who : Int) + 1) span draw (g.C who).s).Ok 1 := Cr.Ok.new ho.may ho.sn (by omega) hs
 exact h.upd (h1.mono ho.big.1 ho.big.2) rfl
end Go.Proofs.YtmhaahcbmdhinaaGreatDoor
namespace Go.Proofs.YtmhaahcbmdhinaaGreatDoor
open Go.RowKit
set_option maxRecDepth 100000
set_option linter.unusedVariables false
set_option linter.unusedSimpArgs false
def DeedPost (fb : Nat) (w : World) (n gb : Nat) (span : Int) (F : Nat → Prop) (k : Nat) (R : Gs → Prop) (e : Ending) (w' : World) : Prop := e = .returned (.tuple #[]) ∧ ∃ g' p', GrIs fb w' n gb span p' g' F ∧ GOk n k g' ∧ R g' ∧ KeepF F w w'
def dcells (kd who N draw : Int) : Array Value := #[.int .i64 kd, .int .i64 who, .int .i64 N, .int .i64 draw]
theorem Bx.d4 {W : World} {z : Nat} {kd who N draw : Int} (h : Bx W z (dcells kd who N draw)) : W.cell? ⟨z, 0, none⟩ = some (.int .i64 kd) ∧ W.cell? ⟨z, 1, none⟩ = some (.int .i64 who) ∧ W.cell? ⟨z, 2, none⟩ = some (.int .i64 N) ∧ W.cell? ⟨z, 3, none⟩ = some (.int .i64 draw) := ⟨h.c 0, h.c 1, h.c 2, h.c 3⟩
theorem GrIs.ptr {fb n gb : Nat} {W : World} {span : Int} {p : Nat → Nat} {g : Gs} {F : Nat → Prop} (h : GrIs fb W n gb span p g F) {q : Nat} (hq : q < n) (h7 : n ≤ 7) : W.cell? ⟨gb, q, none⟩ = some (.pointer (some ⟨p q, 0, none⟩)) := by
 obtain ⟨U, V, m, cells, N, nn, cn, NX, X, D, a, b, c, d⟩ := h
 exact (a.bx.c q).trans ((a.ptr q (by omega)).trans (by rw [if_pos hq]))
set_option maxHeartbeats 12800000 in
theorem deed_tick {fb n gb : Nat} {span : Int} {p : Nat → Nat} {w : World} {g : Gs} {F : Nat → Prop} {k : Nat} (kd who N draw : Int) (h : GrIs fb w n gb span p g F) (ho : GOk n k g) (hk : k + 60 ≤ 1000000) (hn : 1 ≤ n ∧ n ≤ 7) (hkd : (IntKind.u64.wrap kd).tmod 17 = 0 ∨ (IntKind.u64.wrap kd).tmod 17 = 1 ∨ (IntKind.u64.wrap kd).tmod 17 = 2 ∨ (IntKind.u64.wrap kd).tmod 17 = 3) :
  Calls Tryz.prog 30 #[.pointer (some ⟨gb, 0, none⟩), .int .i64 (n : Int), .agg #[.int .i64 kd, .int .i64 who, .int .i64 N, .int .i64 draw]] w (DeedPost fb w n gb span F (k + 60) (Does n g)) := by
 obtain ⟨q, hq, wn, ht, wq⟩ := umod_n who (n := n) (by omega) (by omega)
 obtain ⟨W0, hW0⟩ : ∃ W0, W0 = w.alloc (.cells (dcells kd who N draw) 92) := ⟨_, rfl⟩
 have z0 : Bx W0 w.heap.size (dcells kd who N draw) := by subst hW0; exact Bx.new _ _ _ rfl
 have b0 : Below w.heap.size w W0 := by subst hW0; exact (Below.refl _ _).alloc (Nat.le_refl _) _
 have g0 : GrIs fb W0 n gb span p g (fun b => F b ∨ b = w.heap.size) := h.more_f (by omega) b0 fun b hb => hb.imp_right fun e => by have := z0.lt; omega
 have kf0 : KeepF F w W0 := KeepF.of_below b0 h.fin
 have F0 : Hid (∀ W, Kept (fun b => b ≠ gb ∧ b ≠ w.heap.size) W0 W → W.cell? ⟨gb, q, none⟩ = some (.pointer (some ⟨p q, 0, none⟩))) := Lib.hid fun W hb => by
  have hl := World.block_lt_of_cell? W0 _ (g0.ptr hq hn.2)
  have h9 := g0.ptr hq hn.2
  unfold World.cell? at h9 ⊢
  rw [hb.block gb hl (fun e => e.1 rfl)]
  exact h9
 have c0 := g0.ptr hq hn.2
 obtain ⟨d0, d1, d2, d3⟩ := z0.d4
 have hq0 : (0 : Int) ≤ (q : Int) := by omega
 have hq7 : (q : Int) < 7 := by omega
 have H := Lib.hid (And.intro g0 (And.intro kf0 (And.intro z0 (And.intro ho (And.intro hk (And.intro hn hq))))))
 have HW0 := hW0
 unfold dcells at HW0
 clear z0 b0 g0 kf0 h hW0 F0
 rcases hkd with hkd | hkd | hkd | hkd
 all_goals
  go_enter Tryz.func30, Tryz.ntmps30
  go_upto_region 1 with (fail)
  rw [← HW0]
  clear HW0
  go_wp2_with fail
  refine (gtick_any H.out.1 H.out.2.2.2.2.2.2 (H.out.2.2.2.1 q H.out.2.2.2.2.2.2) draw).mono ?_
  rintro e w1 ⟨A, n', c', rfl, htc, hk1⟩
  go_wp2_with fail
  refine htc.mono ?_
  rintro e w2 ⟨rfl, hg2, hk2⟩
  go_wp2_with fail
  refine bodyPost_end (results_none rfl _ _ _) (by rfl) ?_
  exact ⟨rfl, g.ticks q draw, p, hg2.less_f fun b hb => .inl hb, (H.out.2.2.2.1.ticks H.out.2.2.2.2.2.2 draw).mono (by omega) (by have := H.out.2.2.2.2.1; omega), .ticks g q draw H.out.2.2.2.2.2.2 ⟨k, H.out.2.2.2.1 q H.out.2.2.2.2.2.2⟩, H.out.2.1.trans (hk2.mono fun b hb => .inl hb)⟩
set_option maxHeartbeats 12800000 in
theorem deed_stays {fb n gb : Nat} {span : Int} {p : Nat → Nat} {w : World} {g : Gs} {F : Nat → Prop} {k : Nat} (kd who N draw : Int) (h : GrIs fb w n gb span p g F) (ho : GOk n k g) (hk : k + 60 ≤ 1000000) (hn : 1 ≤ n ∧ n ≤ 7) (hkd : (IntKind.u64.wrap kd).tmod 17 = 10) :
  Calls Tryz.prog 30 #[.pointer (some ⟨gb, 0, none⟩), .int .i64 (n : Int), .agg #[.int .i64 kd, .int .i64 who, .int .i64 N, .int .i64 draw]] w (DeedPost fb w n gb span F (k + 60) (Does n g)) := by
 obtain ⟨q, hq, wn, ht, wq⟩ := umod_n who (n := n) (by omega) (by omega)
 obtain ⟨W0, hW0⟩ : ∃ W0, W0 = w.alloc (.cells (dcells kd who N draw) 92) := ⟨_, rfl⟩
 have z0 : Bx W0 w.heap.size (dcells kd who N draw) := by subst hW0; exact Bx.new _ _ _ rfl
 have b0 : Below w.heap.size w W0 := by subst hW0; exact (Below.refl _ _).alloc (Nat.le_refl _) _
 have g0 : GrIs fb W0 n gb span p g (fun b => F b ∨ b = w.heap.size) := h.more_f (by omega) b0 fun b hb => hb.imp_right fun e => by have := z0.lt; omega
 have kf0 : KeepF F w W0 := KeepF.of_below b0 h.fin
 have F0 : Hid (∀ W, Kept (fun b => b ≠ gb ∧ b ≠ w.heap.size) W0 W → W.cell? ⟨gb, q, none⟩ = some (.pointer (some ⟨p q, 0, none⟩))) := Lib.hid fun W hb => by
  have hl := World.block_lt_of_cell? W0 _ (g0.ptr hq hn.2)
  have h9 := g0.ptr hq hn.2
  unfold World.cell? at h9 ⊢
  rw [hb.block gb hl (fun e => e.1 rfl)]
  exact h9
 have c0 := g0.ptr hq hn.2
 obtain ⟨d0, d1, d2, d3⟩ := z0.d4
 have hq0 : (0 : Int) ≤ (q : Int) := by omega
 have hq7 : (q : Int) < 7 := by omega
 have H := Lib.hid (And.intro g0 (And.intro kf0 (And.intro z0 (And.intro ho (And.intro hk (And.intro hn hq))))))
 have HW0 := hW0
 unfold dcells at HW0
 clear z0 b0 g0 kf0 h hW0 F0
 go_enter Tryz.func30, Tryz.ntmps30
 go_upto_region 1 with (fail)
 rw [← HW0]
 clear HW0
 go_wp2_with fail
 refine (hears_any N true draw H.out.1 H.out.2.2.2.1 (by have := H.out.2.2.2.2.1; omega) H.out.2.2.2.2.2.1).mono ?_
 rintro e w1 ⟨rfl, j, hg1, hk1⟩
 go_wp2_with fail
 refine bodyPost_end (results_none rfl _ _ _) (by rfl) ?_
 exact ⟨rfl, _, p, hg1.less_f fun b hb => .inl hb, (H.out.2.2.2.1.hears (by have := H.out.2.2.2.2.1; omega) N true draw j).mono (by omega) (by have := H.out.2.2.2.2.1; omega), .hears g N true draw j ⟨k, H.out.2.2.2.1, by have := H.out.2.2.2.2.1; omega⟩, H.out.2.1.trans (hk1.mono fun b hb => .inl hb)⟩
set_option maxHeartbeats 12800000 in
theorem deed_hears {fb n gb : Nat} {span : Int} {p : Nat → Nat} {w : World} {g : Gs} {F : Nat → Prop} {k : Nat} (kd who N draw : Int) (h : GrIs fb w n gb span p g F) (ho : GOk n k g) (hk : k + 60 ≤ 1000000) (hn : 1 ≤ n ∧ n ≤ 7) (hkd : (IntKind.u64.wrap kd).tmod 17 = 4 ∨ (IntKind.u64.wrap kd).tmod 17 = 5 ∨ (IntKind.u64.wrap kd).tmod 17 = 6 ∨ (IntKind.u64.wrap kd).tmod 17 = 7 ∨ (IntKind.u64.wrap kd).tmod 17 = 8) :
  Calls Tryz.prog 30 #[.pointer (some ⟨gb, 0, none⟩), .int .i64 (n : Int), .agg #[.int .i64 kd, .int .i64 who, .int .i64 N, .int .i64 draw]] w (DeedPost fb w n gb span F (k + 60) (Does n g)) := by
 obtain ⟨q, hq, wn, ht, wq⟩ := umod_n who (n := n) (by omega) (by omega)
 obtain ⟨W0, hW0⟩ : ∃ W0, W0 = w.alloc (.cells (dcells kd who N draw) 92) := ⟨_, rfl⟩
 have z0 : Bx W0 w.heap.size (dcells kd who N draw) := by subst hW0; exact Bx.new _ _ _ rfl
 have b0 : Below w.heap.size w W0 := by subst hW0; exact (Below.refl _ _).alloc (Nat.le_refl _) _
 have g0 : GrIs fb W0 n gb span p g (fun b => F b ∨ b = w.heap.size) := h.more_f (by omega) b0 fun b hb => hb.imp_right fun e => by have := z0.lt; omega
 have kf0 : KeepF F w W0 := KeepF.of_below b0 h.fin
 have F0 : Hid (∀ W, Kept (fun b => b ≠ gb ∧ b ≠ w.heap.size) W0 W → W.cell? ⟨gb, q, none⟩ = some (.pointer (some ⟨p q, 0, none⟩))) := Lib.hid fun W hb => by
  have hl := World.block_lt_of_cell? W0 _ (g0.ptr hq hn.2)
  have h9 := g0.ptr hq hn.2
  unfold World.cell? at h9 ⊢
  rw [hb.block gb hl (fun e => e.1 rfl)]
  exact h9
 have c0 := g0.ptr hq hn.2
 obtain ⟨d0, d1, d2, d3⟩ := z0.d4
 have hq0 : (0 : Int) ≤ (q : Int) := by omega
 have hq7 : (q : Int) < 7 := by omega
 have H := Lib.hid (And.intro g0 (And.intro kf0 (And.intro z0 (And.intro ho (And.intro hk (And.intro hn hq))))))
 have HW0 := hW0
 unfold dcells at HW0
 clear z0 b0 g0 kf0 h hW0 F0
 rcases hkd with hkd | hkd | hkd | hkd | hkd
 all_goals
  go_enter Tryz.func30, Tryz.ntmps30
  go_upto_region 1 with (fail)
  rw [← HW0]
  clear HW0
  go_wp2_with fail
  refine (hears_any N false draw H.out.1 H.out.2.2.2.1 (by have := H.out.2.2.2.2.1; omega) H.out.2.2.2.2.2.1).mono ?_
  rintro e w1 ⟨rfl, j, hg1, hk1⟩
  go_wp2_with fail
  refine bodyPost_end (results_none rfl _ _ _) (by rfl) ?_
  exact ⟨rfl, _, p, hg1.less_f fun b hb => .inl hb, (H.out.2.2.2.1.hears (by have := H.out.2.2.2.2.1; omega) N false draw j).mono (by omega) (by have := H.out.2.2.2.2.1; omega), .hears g N false draw j ⟨k, H.out.2.2.2.1, by have := H.out.2.2.2.2.1; omega⟩, H.out.2.1.trans (hk1.mono fun b hb => .inl hb)⟩
set_option maxHeartbeats 12800000 in
theorem deed_lost {fb n gb : Nat} {span : Int} {p : Nat → Nat} {w : World} {g : Gs} {F : Nat → Prop} {k : Nat} (kd who N draw : Int) (h : GrIs fb w n gb span p g F) (ho : GOk n k g) (hk : k + 60 ≤ 1000000) (hn : 1 ≤ n ∧ n ≤ 7) (hkd : (IntKind.u64.wrap kd).tmod 17 = 9) :
  Calls Tryz.prog 30 #[.pointer (some ⟨gb, 0, none⟩), .int .i64 (n : Int), .agg #[.int .i64 kd, .int .i64 who, .int .i64 N, .int .i64 draw]] w (DeedPost fb w n gb span F (k + 60) (Does n g)) := by
 obtain ⟨q, hq, wn, ht, wq⟩ := umod_n who (n := n) (by omega) (by omega)
 obtain ⟨W0, hW0⟩ : ∃ W0, W0 = w.alloc (.cells (dcells kd who N draw) 92) := ⟨_, rfl⟩
 have z0 : Bx W0 w.heap.size (dcells kd who N draw) := by subst hW0; exact Bx.new _ _ _ rfl
 have b0 : Below w.heap.size w W0 := by subst hW0; exact (Below.refl _ _).alloc (Nat.le_refl _) _
 have g0 : GrIs fb W0 n gb span p g (fun b => F b ∨ b = w.heap.size) := h.more_f (by omega) b0 fun b hb => hb.imp_right fun e => by have := z0.lt; omega
 have kf0 : KeepF F w W0 := KeepF.of_below b0 h.fin
 have F0 : Hid (∀ W, Kept (fun b => b ≠ gb ∧ b ≠ w.heap.size) W0 W → W.cell? ⟨gb, q, none⟩ = some (.pointer (some ⟨p q, 0, none⟩))) := Lib.hid fun W hb => by
  have hl := World.block_lt_of_cell? W0 _ (g0.ptr hq hn.2)
  have h9 := g0.ptr hq hn.2
  unfold World.cell? at h9 ⊢
  rw [hb.block gb hl (fun e => e.1 rfl)]
  exact h9
 have c0 := g0.ptr hq hn.2
 obtain ⟨d0, d1, d2, d3⟩ := z0.d4
 have hq0 : (0 : Int) ≤ (q : Int) := by omega
 have hq7 : (q : Int) < 7 := by omega
 have H := Lib.hid (And.intro g0 (And.intro kf0 (And.intro z0 (And.intro ho (And.intro hk (And.intro hn hq))))))
 have HW0 := hW0
 unfold dcells at HW0
 clear z0 b0 g0 kf0 h hW0 F0
 go_enter Tryz.func30, Tryz.ntmps30
 go_upto_region 1 with (fail)
 rw [← HW0]
 clear HW0
 have hg := H.out.1
 obtain ⟨U, V, m, cells, NA, nn, cn, NX, X, D, G, hnet, hdone, hF2⟩ := hg
 have c8 : W0.cell? ⟨gb, 8, none⟩ = some (.slice NA nn cn) := (G.bx.c 8).trans G.net
 have hlen : NX.length = nn := (Rd.of_own G.ow).flen mcell_len (by omega)
 have hnn := G.few
 have K := Lib.hid (And.intro G (And.intro hnet (And.intro hdone (And.intro hF2 hlen))))
 clear G hnet hdone hF2 hlen
 by_cases h0 : 0 < nn
 ·have h0I : decide (0 < nn) = true := decide_eq_true h0
  have h0J : decide ((0 : Int) < (nn : Int)) = true := decide_eq_true (by omega)
  obtain ⟨i, hi, wn2, ht2, wi⟩ := umod_n N (n := nn) (by omega) (by omega)
  obtain ⟨b, o, x, rfl, hbo, hbl, hx, hc⟩ := (Rd.of_own K.out.1.ow).fat mcell_len (by omega) hi
  clear hbo hbl hx hc
  have hn0 : ¬ nn = 0 := by omega
  have hz : ((nn : Int) == 0) = false := by simpa using hn0
  have hi0 : (i : Int) < (nn : Int) := by omega
  have h0i : (0 : Int) ≤ (i : Int) := by omega
  go_upto_region 12 with (fail)
  have F8 : Hid (∀ W, Below W0.heap.size W0 W → W.cell? ⟨gb, 8, none⟩ = some (.slice (some ⟨b, o, none⟩) nn cn) ∧ W.cell? ⟨w.heap.size, 2, none⟩ = some (.int .i64 N)) := Lib.hid fun W hb => ⟨((K.out.1.bx.below hb).c 8).trans K.out.1.net, ((H.out.2.2.1.below hb).d4).2.2.1⟩
  refine wp_region_S 11 (fun W => Below W0.heap.size W0 W) (.take 0 (.take 1 (.take 2 (.take 3 (.take 4 (.take 5 (.take 6 (.take 7 (.take 8 (.take 9 (.take 10 (.one 11 (.nil))))))))))))) (by kernel_rfl) (Below.refl _ _).drew (fun _ _ _ _ h => h) (fun hS => ?_)
  repeat (first
   | (refine wpS_take (v := ?_) rfl rfl (by rfl) ?_ ?_; rotate_left; (intro W hW; have hf := F8.out W hW; go_split_ands; go_simp; try with_reducible rfl); try simp only [Act.put, lyA, lyB, lyC])
   | (refine wpS_skip rfl rfl (by rfl) ?_; try simp only [Act.put, lyA, lyB, lyC]))
  refine wpS_last rfl (by rfl) (fun K hK => ?_)
  go_simp
  refine hK _ _ ?_
  clear hK K
  try simp only [Act.put, lyA, lyB, lyC]
  refine wpS_nil ?_
  have hcp := own_cp K.out.1.ow
  have hcp1 := hcp.1
  have hcp2 := hcp.2
  have hj0 : ¬ ((i : Int) < 0) := by omega
  have hjc : i ≤ cn := by omega
  have hjd : decide ((i : Int) < 0) = false := by simp
  have hjw : IntKind.i64.wrap ((i : Int) + 1) = (i : Int) + 1 := by rw [IntKind.wrap_i64]; omega
  obtain ⟨ad, had⟩ : ∃ ad, ad = (if cn = i + 1 then (some ⟨b, o, none⟩ : Option Addr) else (some (⟨b, o, none⟩ : Addr)).map (·.add ((i + 1) * 12))) := ⟨_, rfl⟩
  have e9 : ∀ W, (Instr.sliceAt 54 (.slice (some ⟨b, o, none⟩) nn cn) (some (.int .i64 ((i : Int) + 1))) none none).run Tryz.prog W = .ok (.slice ad (nn - (i + 1)) (cn - (i + 1))) W := by
   intro W
   have := run_slice_lo (P := Tryz.prog) 54 Tryz.underlying54 (size := 12) (by kernel_rfl) (some ⟨b, o, none⟩) nn cn W (i + 1) (by omega)
   rw [← had] at this
   exact this
  have hr1 : Rd W0 (fun _ => True) 12 (some ⟨b, o, none⟩) i (flat mcell (NX.take i)) := by
   have h9 := (Rd.of_own K.out.1.ow).any.take (k := i) (by omega)
   rw [← flat_take mcell_len] at h9
   exact h9
  have hr2 : Rd W0 (fun _ => True) 12 ad (nn - (i + 1)) (flat mcell (NX.drop (i + 1))) := by
   have h9 := (Rd.of_own K.out.1.ow).any.cut (k := i + 1) (cap := cn) (by omega) (by omega)
   rw [← had, ← flat_drop mcell_len] at h9
   exact h9
  have HR2 := Lib.hid (And.intro hr1 hr2)
  clear hr1 hr2 had hcp
  go_upto_region 14 with (fail)
  refine wp_region_S 19 (fun W => Below W0.heap.size W0 W) (.take 0 (.take 1 (.take 2 (.take 3 (.take 4 (.take 5 (.take 6 (.take 7 (.take 9 (.take 10 (.take 11 (.take 12 (.take 13 (.take 14 (.take 15 (.one 8 (.one 16 (.take 17 (.take 18 (.one 19 (.nil))))))))))))))))))))) (by kernel_rfl) ((Below.refl _ _).drew).drew (fun _ _ _ _ h => h) (fun hS => ?_)
  repeat (first
   | (refine wpS_take (v := ?_) rfl rfl (by rfl) ?_ ?_; rotate_left; (intro W hW; have hf := F8.out W hW; go_split_ands; go_simp; try with_reducible rfl); try simp only [Act.put, lyA, lyB, lyC])
   | (refine wpS_skip rfl rfl (by rfl) ?_; try simp only [Act.put, lyA, lyB, lyC]))
  refine wpS_one rfl (by rfl) (fun K9 hK => ?_)
  refine wp_append_any W0.drew.drew Tryz.underlying54 msg_elem rfl (by omega) rfl rfl (World.ownsRow_nil _ W0.heap.size _ _) rfl (HR2.out.1.drew).drew (mcell_one _) (by omega) (Nat.le_refl _) (k := i) (Nat.zero_add i) (ys := flat mcell (NX.take i)) (List.nil_append _) ?_
  intro A1 c1 w2 o1 g1 hat1
  have hb2 : Below W0.heap.size W0 w2 := (((Below.refl _ _).drew).drew).grown g1 (Nat.le_refl _) (by simp)
  have O1 := Lib.hid (And.intro o1 hb2)
  refine hK (fun W => Below W0.heap.size W0 W) _ _ (fun _ h => h) hb2 ?_
  clear hK K9 hS o1 g1 hat1 hb2
  try simp only [Act.put, lyA, lyB, lyC]
  refine wpS_one rfl (by rfl) (fun K9 hK => ?_)
  refine wp_append_any w2 Tryz.underlying54 msg_elem rfl (by omega) rfl rfl O1.out.1 rfl (HR2.out.2.below O1.out.2) (mcell_one _) (by omega) O1.out.2.size (k := nn - 1) (by omega) (ys := flat mcell (NX.take i ++ NX.drop (i + 1))) (flat_append _ _).symm ?_
  intro A2 c2 w3 o2 g2 hat2
  have hb3 : Below W0.heap.size W0 w3 := O1.out.2.grown g2 O1.out.2.size (fun q hq => (own_lt O1.out.1 q hq).1)
  have O2 := Lib.hid (And.intro o2 hb3)
  have p8 := (F8.out w3 hb3).1
  have q8 := (K.out.1.bx.below hb3).f 8
  refine hK (fun W => Below W0.heap.size W0 W) _ _ (fun _ h => h) hb3 ?_
  clear hK K9 o2 g2 hat2 hb3
  try simp only [Act.put, lyA, lyB, lyC]
  repeat (first
   | (refine wpS_take (v := ?_) rfl rfl (by rfl) ?_ ?_; rotate_left; (intro W hW; have hf := F8.out W hW; go_split_ands; go_simp; try with_reducible rfl); try simp only [Act.put, lyA, lyB, lyC])
   | (refine wpS_skip rfl rfl (by rfl) ?_; try simp only [Act.put, lyA, lyB, lyC]))
  refine wpS_last rfl (by rfl) (fun K9 hK => ?_)
  go_simp
  refine hK _ _ ?_
  clear hK K9
  try simp only [Act.put, lyA, lyB, lyC]
  refine wpS_nil ?_
  obtain ⟨W3, hW3⟩ : ∃ W3, W3 = w3.setCell ⟨gb, 8, none⟩ (.slice A2 (nn - 1) c2) := ⟨_, rfl⟩
  rw [← hW3]
  have HW3 := Lib.hid hW3
  clear hW3 p8 q8
  go_wp2_with fail
  refine bodyPost_end (results_none rfl _ _ _) (by rfl) ?_
  have kg : Kept (· = gb) w3 W3 := by rw [HW3.out]; exact kset (Kept.refl _ _) _
  have hb3 := O2.out.2
  have k3 : Kept (· = gb) W0 W3 := (Kept.of_new hb3).trans kg fun b _ h => h
  have G1 := K.out.1
  have bx3 : Bx W3 gb (cells.setIfInBounds 8 (.slice A2 (nn - 1) c2)) := by rw [HW3.out]; exact (G1.bx.below hb3).set 8 _
  have ow3 : W3.ownsRow 0 78 12 (.slice A2 (nn - 1 : Nat) c2) (nn - 1) (flat mcell (NX.take i ++ NX.drop (i + 1))) := own_mono (kg.own O2.out.1 fun b hb e => by have := (own_lt O2.out.1 b hb).1; have := G1.bx.lt; omega) (Nat.zero_le _)
  have G3 := G1.less (NX' := NX.take i ++ NX.drop (i + 1)) (fun x hx => (List.mem_append.1 hx).elim List.mem_of_mem_take List.mem_of_mem_drop) bx3 (GbTo.set ⟨G1.net, fun _ _ => rfl⟩) ow3 (by omega) k3 (fun b hb => (own_lt O2.out.1 b hb).1) G1.en.le
  refine ⟨rfl, { g with net := (NX.take i ++ NX.drop (i + 1)).map Mr.ms }, p, ⟨_, V, m, _, A2, nn - 1, c2, _, X, D, G3, rfl, K.out.2.2.1, fun b hb => ⟨fun h9 => ?_, ?_⟩⟩, fun i hi => (H.out.2.2.2.1 i hi).mono (by omega) (by have := H.out.2.2.2.2.1; omega), .lost g _ fun y hy => ?_, H.out.2.1.trans (KeepF.of_kept k3 fun b hb => ⟨(K.out.2.2.2.1 b (.inl hb)).2, fun e => (K.out.2.2.2.1 b (.inl hb)).1 (e ▸ G1.gu.1)⟩)⟩
  ·have h1 := K.out.2.2.2.1 b (.inl hb)
   rcases h9 with h9 | h9
   ·exact h1.1 h9
   ·have := (own_lt O2.out.1 b h9).1
    have := h1.2
    omega
  ·exact Nat.lt_of_lt_of_le (K.out.2.2.2.1 b (.inl hb)).2 k3.size
  ·rw [← K.out.2.1]
   obtain ⟨z, hz, rfl⟩ := List.mem_map.1 hy
   exact List.mem_map_of_mem ((List.mem_append.1 hz).elim List.mem_of_mem_take List.mem_of_mem_drop)
 ·have h0I : decide (0 < nn) = false := decide_eq_false h0
  have h0J : decide ((0 : Int) < (nn : Int)) = false := decide_eq_false (by omega)
  go_wp2_with fail
  refine bodyPost_end (results_none rfl _ _ _) (by rfl) ?_
  exact ⟨rfl, g, p, H.out.1.less_f fun b hb => .inl hb, H.out.2.2.2.1.mono (by omega) (by have := H.out.2.2.2.2.1; omega), .refl g, H.out.2.1⟩
set_option maxHeartbeats 12800000 in
theorem deed_ask {fb n gb : Nat} {span : Int} {p : Nat → Nat} {w : World} {g : Gs} {F : Nat → Prop} {k : Nat} (kd who N draw : Int) (h : GrIs fb w n gb span p g F) (ho : GOk n k g) (hk : k + 60 ≤ 1000000) (hn : 1 ≤ n ∧ n ≤ 7) (hkd : (IntKind.u64.wrap kd).tmod 17 = 11 ∨ (IntKind.u64.wrap kd).tmod 17 = 12) :
  Calls Tryz.prog 30 #[.pointer (some ⟨gb, 0, none⟩), .int .i64 (n : Int), .agg #[.int .i64 kd, .int .i64 who, .int .i64 N, .int .i64 draw]] w (DeedPost fb w n gb span F (k + 60) (Does n g)) := by
 obtain ⟨q, hq, wn, ht, wq⟩ := umod_n who (n := n) (by omega) (by omega)
 obtain ⟨W0, hW0⟩ : ∃ W0, W0 = w.alloc (.cells (dcells kd who N draw) 92) := ⟨_, rfl⟩
 have z0 : Bx W0 w.heap.size (dcells kd who N draw) := by subst hW0; exact Bx.new _ _ _ rfl
 have b0 : Below w.heap.size w W0 := by subst hW0; exact (Below.refl _ _).alloc (Nat.le_refl _) _
 have g0 : GrIs fb W0 n gb span p g (fun b => F b ∨ b = w.heap.size) := h.more_f (by omega) b0 fun b hb => hb.imp_right fun e => by have := z0.lt; omega
 have kf0 : KeepF F w W0 := KeepF.of_below b0 h.fin
 have F0 : Hid (∀ W, Kept (fun b => b ≠ gb ∧ b ≠ w.heap.size) W0 W → W.cell? ⟨gb, q, none⟩ = some (.pointer (some ⟨p q, 0, none⟩))) := Lib.hid fun W hb => by
  have hl := World.block_lt_of_cell? W0 _ (g0.ptr hq hn.2)
  have h9 := g0.ptr hq hn.2
  unfold World.cell? at h9 ⊢
  rw [hb.block gb hl (fun e => e.1 rfl)]
  exact h9
 have c0 := g0.ptr hq hn.2
 obtain ⟨d0, d1, d2, d3⟩ := z0.d4
 have hq0 : (0 : Int) ≤ (q : Int) := by omega
 have hq7 : (q : Int) < 7 := by omega
 have H := Lib.hid (And.intro g0 (And.intro kf0 (And.intro z0 (And.intro ho (And.intro hk (And.intro hn hq))))))
 have HW0 := hW0
 unfold dcells at HW0
 clear z0 b0 g0 kf0 h hW0 F0
 rcases hkd with hkd | hkd
 all_goals
  go_enter Tryz.func30, Tryz.ntmps30
  go_upto_region 1 with (fail)
  rw [← HW0]
  clear HW0
  obtain ⟨v, hv, _, hvt, _⟩ := umod_n N (n := 200) (by omega) (by omega)
  have hv1 : IntKind.u64.wrap (1 + (v : Int)) = 1 + (v : Int) := by rw [IntKind.wrap_u64]; omega
  have hv2 : IntKind.u8.wrap (1 + (v : Int)) = 1 + (v : Int) := by rw [IntKind.wrap_u8]; omega
  have hvt' : (IntKind.u64.wrap N).tmod 200 = (v : Int) := hvt
  go_upto_region 19 with (fail)
  go_wp2_with fail
  obtain ⟨W1, hW1⟩ : ∃ W1, W1 = W0.alloc (.cells #[.int .u8 (1 + (v : Int))] 5) := ⟨_, rfl⟩
  have b1 : Below W0.heap.size W0 W1 := by subst hW1; exact (Below.refl _ _).alloc (Nat.le_refl _) _
  have hbs : (#[.int .u8 (1 + (v : Int))] : Array Value).toList = bs [UInt8.ofNat (1 + v)] := by
   unfold bs
   simp only [List.map_cons, List.map_nil]
   have h9 : (UInt8.ofNat (1 + v)).toNat = 1 + v := by rw [UInt8.toNat_ofNat']; omega
   rw [h9]
   simp
  have r1 : Rd W1 T 1 (some ⟨W0.heap.size, 0, none⟩) 1 (bs [UInt8.ofNat (1 + v)]) := by subst hW1; rw [← hbs]; exact (Rd.blit rfl).any
  rw [← hW1]
  clear hW1
  have B1 := Lib.hid (And.intro b1 r1)
  clear b1 r1 hbs
  refine (gask_any (H.out.1.below B1.out.1) H.out.2.2.2.2.2.2 (H.out.2.2.2.1 q H.out.2.2.2.2.2.2) 1 _ 1 1 [UInt8.ofNat (1 + v)] B1.out.2 (by simp [maxLen])).mono ?_
  rintro e w1 ⟨A, n', c', rfl, htc, hk1⟩
  go_wp2_with fail
  refine htc.mono ?_
  rintro e w2 ⟨rfl, hg2, hk2⟩
  go_wp2_with fail
  refine bodyPost_end (results_none rfl _ _ _) (by rfl) ?_
  exact ⟨rfl, _, p, hg2.less_f fun b hb => .inl hb, (H.out.2.2.2.1.asks H.out.2.2.2.2.2.2 1 [UInt8.ofNat (1 + v)]).mono (by omega) (by have := H.out.2.2.2.2.1; omega), .asks g q 1 _ H.out.2.2.2.2.2.2 ⟨k, H.out.2.2.2.1 q H.out.2.2.2.2.2.2⟩, H.out.2.1.trans ((KeepF.of_below B1.out.1 H.out.1.fin).trans hk2 |>.mono fun b hb => .inl hb)⟩
end Go.Proofs.YtmhaahcbmdhinaaGreatDoor
namespace Go.Proofs.YtmhaahcbmdhinaaGreatDoor
set_option linter.unusedVariables false
theorem low_lt {z x : Int} {l : List Int} {h : Nat} (hp : l.Pairwise (· < ·)) (hx : l[h]? = some x) (h1 : x < z) : h + 1 ≤ low z l := by
 rcases Nat.lt_or_ge h (low z l) with h2 | h2
 ·exact h2
 ·have h3 : x ∈ l.drop (low z l) := List.mem_of_getElem? (i := h - low z l) (by rw [List.getElem?_drop, show low z l + (h - low z l) = h by omega]; exact hx)
  have := low_after hp x h3
  omega
theorem low_ge {z x : Int} {l : List Int} {h : Nat} (hx : l[h]? = some x) (h1 : ¬ x < z) : low z l ≤ h := by
 rcases Nat.lt_or_ge h (low z l) with h2 | h2
 ·exact absurd (low_before x (List.mem_of_getElem? (i := h) (by rw [List.getElem?_take, if_pos h2]; exact hx))) h1
 ·exact h2
theorem low_mem {z : Int} {l : List Int} (hp : l.Pairwise (· < ·)) : z ∈ l ↔ l[low z l]? = some z := by
 constructor
 ·intro hz
  obtain ⟨h, hx⟩ := List.getElem?_of_mem hz
  have h1 := low_ge hx (Int.lt_irrefl z)
  rcases Nat.lt_or_ge (low z l) h with h2 | h2
  ·have hl := (List.getElem?_eq_some_iff.1 hx).1
   have h3 := List.getElem?_eq_getElem (l := l) (i := low z l) (by omega)
   have h4 := low_after (z := z) hp (l[low z l]'(by omega)) (List.mem_of_getElem? (i := 0) (by rw [List.getElem?_drop]; exact h3))
   have h5 := List.pairwise_iff_getElem.1 hp (low z l) h (by omega) hl h2
   have h6 : l[h] = z := (List.getElem?_eq_some_iff.1 hx).2
   omega
  ·rw [show low z l = h by omega]; exact hx
 ·exact List.mem_of_getElem?
theorem del_at {z : Int} {l : List Int} {j : Nat} (hp : l.Pairwise (· < ·)) (hx : l[j]? = some z) : del z l = l.take j ++ l.drop (j + 1) := by
 obtain ⟨hj, he⟩ := List.getElem?_eq_some_iff.1 hx
 have e : l = l.take j ++ z :: l.drop (j + 1) := by
  conv => lhs; rw [← List.take_append_drop j l, List.drop_eq_getElem_cons hj, he]
 have hp2 := hp
 rw [e, List.pairwise_append, List.pairwise_cons] at hp2
 obtain ⟨_, ⟨h2, _⟩, h3⟩ := hp2
 unfold del
 conv => lhs; rw [e]
 rw [List.filter_append, List.filter_cons, if_neg (by simp)]
 congr 1
 ·rw [List.filter_eq_self]
  intro x hx
  have := h3 x hx z (by simp)
  simp only [Bool.not_eq_true', decide_eq_false_iff_not]
  omega
 ·rw [List.filter_eq_self]
  intro x hx
  have := h2 x hx
  simp only [Bool.not_eq_true', decide_eq_false_iff_not]
  omega
def addOf (l : List Int) (z : Int) : Int × List Int := if cmay l = false ∨ z < 1 ∨ 64 < z then (1, []) else if z ∈ l then (9, []) else if 7 ≤ l.length then (10, []) else (0, ins z l)
def remOf (l : List Int) (z : Int) : Int × List Int := if cmay l = false then (1, []) else if z ∉ l then (8, []) else if l.length = 1 then (1, []) else (0, del z l)
end Go.Proofs.YtmhaahcbmdhinaaGreatDoor
