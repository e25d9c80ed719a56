/- Walk: (*raft.Core).install
   Walk: (*raft.Core).take -/
import Derived.Test.YtmhaahcbmdhinaaGreatDoorZM25
import Derived.Test.YtmhaahcbmdhinaaGreatDoorZM26
import Derived.Test.YtmhaahcbmdhinaaGreatDoorZM3
import Derived.Test.YtmhaahcbmdhinaaGreatDoorZM5
namespace Go.Proofs.YtmhaahcbmdhinaaGreatDoor
open Go.RowKit
set_option maxRecDepth 100000
set_option linter.unusedVariables false
set_option linter.unusedSimpArgs false
theorem CTo.sNew {fb p : Nat} {w W W' : World} {V U V' U' : Nat → Prop} {C C' : Cr} {m : Mb} {s' : Sv} (h : CTo fb w p V U C W V' U' m) (hb : Bx W' p (({ m with s := s' } : Mb).cells C')) (hg : W.grownBy W' (some p)) (hs : s'.At W (fun b => ¬ U' b)) (h1 : C'.s = s'.st) (h2 : C'.peers = C.peers) (h3 : C'.votes = C.votes) (h4 : C'.hv = C.hv) :
  CTo fb w p V U C' W' V' U' { m with s := s' } := by
 have hx := h.cx
 have hu : ∀ b, ¬ U' b → some b ≠ some p := fun b hb e => by injection e with e; exact hb (e ▸ hx.vu p hx.vp)
 refine ⟨⟨hb, ?_, hx.vp, hx.vq, hx.qp, hx.vv, hx.vu, hx.vf, fun b hb => Nat.lt_of_lt_of_le (hx.ul b hb) hg.size, ?_, hs.keep fun b hb hl => hg.block b hl (hu b hb), h1.symm, ?_, hx.hk⟩, h.vs, h.us, h.un, ?_⟩
 ·rw [h2]; exact hx.pm.keep (hg.block _ hx.pm.lt fun e => hx.qp (by injection e))
 ·rw [h3]
  refine ⟨hx.vt.1, ?_⟩
  rcases hx.vt.2 with h1 | ⟨g, cap, cur, h1, h2, h3, h4⟩
  ·exact .inl h1
  ·refine .inr ⟨g, cap, cur, h1, h2, ?_, h4⟩
   rw [hg.block g (Array.getElem?_eq_some_iff.1 h3).1 (fun e => (hx.vv g (by injection h1 with h1; rw [h1]; rfl)).2.1 (by injection e)), h3]
 ·rw [h4]; exact hx.hv.keep fun b hb hl => hg.block b hl (hu b hb)
 ·exact h.kept.trans ((Kept.refl (· = p) W).grown hg fun b e => by injection e with e; exact e.symm) fun b hb e => (h.vs b (e ▸ hx.vp)).elim id fun h2 => by omega
theorem CTo.sideK {fb p zb : Nat} {w W W' : World} {V U V' U' : Nat → Prop} {C : Cr} {m : Mb} (h : CTo fb w p V U C W V' U' m) (hz : U' zb ∧ ¬ V' zb) (hn : w.heap.size ≤ zb) (hk : Kept (· = zb) W W') : CTo fb w p V U C W' V' U' m := by
 refine ⟨h.cx.hold (fun b hl ho => hk.block b hl fun e => ?_) hk.size, h.vs, h.us, h.un, h.kept.trans hk fun b hb e => by omega⟩
 subst e
 exact ho.elim hz.2 fun h9 => h9 hz.1
theorem kept_three {W5 W9 : World} {zb : Nat} {a b c : Value} (hb : Below W5.heap.size W5 W9) : Kept (· = zb) W5 (((W9.setCell ⟨zb, 0, none⟩ a).setCell ⟨zb, 1, none⟩ b).setCell ⟨zb, 2, none⟩ c) :=
 (Kept.of_new (U := (· = zb)) hb).trans ((Kept.refl (· = zb) W9).grown (gb_trans (gb_trans (gb_set _ zb 0 _) (gb_set _ zb 1 _)) (gb_set _ zb 2 _)) fun b e => by injection e with e; exact e.symm) fun b _ h => h
theorem three_ne {W9 : World} {zb i : Nat} {a b c : Value} (hi : i ≠ zb) : (((W9.setCell ⟨zb, 0, none⟩ a).setCell ⟨zb, 1, none⟩ b).setCell ⟨zb, 2, none⟩ c).heap[i]? = W9.heap[i]? := (heap_set_ne hi).trans ((heap_set_ne hi).trans (heap_set_ne hi))
def instL (C : Cr) (x : Ms) : List En := if C.termOf x.ix = (0, x.lt) then C.s.l.drop (x.ix - C.s.b).toNat else []
def InstCut (W5 : World) (zb : Nat) (C : Cr) (x : Mr) (W : World) : Prop := ∃ (A : Option Addr) (n c : Nat) (L : List Er), Bx W zb #[.int .i64 x.ix, .int .i64 x.lt, .slice A n c] ∧ Rd W (fun b => W5.heap.size ≤ b) 4 A n (flat ecell L) ∧ DatB W W5.heap.size L ∧ (n ≤ c ∧ c ≤ maxLen) ∧ L.map en = instL C x.ms ∧ Kept (· = zb) W5 W
theorem InstCut.no {W5 W : World} {zb : Nat} {C : Cr} {x : Mr} {kt tt : Int} (hb : Bx W5 zb #[.int .i64 x.ix, .int .i64 x.lt, .slice none 0 0]) (hB : Below W5.heap.size W5 W) (ht : C.termOf x.ix = (kt, tt)) (hn : ¬ (kt = 0 ∧ tt = x.lt)) : InstCut W5 zb C x W := by
 refine ⟨none, 0, 0, [], hb.below hB, Rd.none_, (fun y hy => nomatch hy), ⟨by decide, by decide⟩, ?_, Kept.of_new hB⟩
 have h1 : ¬ C.termOf x.ms.ix = (0, x.ms.lt) := fun h => by
  have h2 : C.termOf x.ix = (0, x.lt) := h
  rw [ht] at h2
  injection h2 with h3 h4
  exact hn ⟨h3, h4⟩
 show [] = instL C x.ms
 unfold instL
 rw [if_neg h1]
theorem InstCut.yes {W5 W9 : World} {zb : Nat} {C : Cr} {x : Mr} {b : Int} {mm n c : Nat} {A : Option Addr} {L' : List Er} {l : List En} (hb : Bx W9 zb #[.int .i64 x.ix, .int .i64 x.lt, .slice none 0 0]) (hB : Below W5.heap.size W5 W9) (hz : zb < W5.heap.size) (ht : C.termOf x.ix = (0, x.lt)) (hi : x.ix = b + mm) (hbC : b = C.s.b) (hl : l = C.s.l) (hr : Rd W9 (W5.heap.size ≤ ·) 4 A n (flat ecell L')) (hd : DatB W9 W5.heap.size L') (hc : n ≤ c ∧ c ≤ maxLen) (he : L'.map en = l.drop mm) : InstCut W5 zb C x (((W9.setCell ⟨zb, 0, none⟩ (.int .i64 x.ix)).setCell ⟨zb, 1, none⟩ (.int .i64 x.lt)).setCell ⟨zb, 2, none⟩ (.slice A n c)) := by
 refine ⟨A, n, c, L', ((hb.set 0 _).set 1 _).set 2 _, hr.keep fun b hb _ => three_ne (by omega), fun y hy => ⟨(hd y hy).1.keep fun b hb _ => three_ne (by omega), (hd y hy).2⟩, hc, ?_, kept_three hB⟩
 rw [he, hl]
 unfold instL
 rw [if_pos (show C.termOf x.ms.ix = (0, x.ms.lt) from ht)]
 congr 1
 show mm = (x.ix - C.s.b).toNat
 omega
def InstPost (fb : Nat) (W : World) (p : Nat) (V U : Nat → Prop) (C : Cr) (r : Option Cr) (e : Ending) (w' : World) : Prop := ∃ V' U' m', e = .returned (.bool r.isSome) ∧ CTo fb W p V U (r.getD C) w' V' U' m'
theorem inst_none {C : Cr} {x : Ms} {text : List UInt8} (h : doneS (bytesS 1048576 (bytesS 1048576 (text, 0)).1).1 ≠ 0 ∨ confD (bytesS 1048576 (text, 0)).2 = none) : C.install x text = none := by
 unfold Cr.install
 dsimp only
 cases hc : confD (bytesS 1048576 (text, 0)).2 with
 | none => rfl
 | some cf =>
  dsimp only
  rcases h with h | h
  ·rw [if_pos h]
  ·rw [hc] at h; cases h
theorem inst_some {C : Cr} {x : Ms} {text : List UInt8} {cf : List Int} (h : doneS (bytesS 1048576 (bytesS 1048576 (text, 0)).1).1 = 0) (hc : confD (bytesS 1048576 (text, 0)).2 = some cf) :
  C.install x text = some { C with s := { C.s with b := x.ix, t := x.lt, l := instL C x, cf := cf, sn := (bytesS 1048576 (bytesS 1048576 (text, 0)).1).2 }, commit := x.ix } := by
 unfold Cr.install
 dsimp only
 rw [hc]
 dsimp only
 rw [if_neg (fun h2 => h2 h)]
 rfl
set_option maxHeartbeats 25600000 in
theorem inst_any {fb p : Nat} {w : World} {V U : Nat → Prop} {C : Cr} {m : Mb} {k : Nat} (x : Mr) (TA : Option Addr) (tn tc : Nat) (text : List UInt8) (h : CX fb w p V U C m) (ho : C.Ok k) (he : Env fb w) {okt : Nat → Prop} (ht : Rd w okt 1 TA tn (bs text)) (htc : tn ≤ tc ∧ tc ≤ maxLen) :
  Calls Tryz.prog 129 #[.pointer (some ⟨p, 0, none⟩), x.val, .slice TA tn tc] w (InstPost fb w p V U C (C.install x.ms text)) := by
 obtain ⟨W0, hW0⟩ : ∃ W0, W0 = w.alloc (.cells x.cells 78) := ⟨_, rfl⟩
 have b0 : Bx W0 w.heap.size x.cells := by subst hW0; exact Bx.new _ _ _ rfl
 have hbe : Below w.heap.size w W0 := by subst hW0; exact (Below.refl _ _).alloc (Nat.le_refl _) _
 have hz0 : W0.heap.size = w.heap.size + 1 := by subst hW0; simp
 have hread := read_any TA tn tc text W0 (ht.below hbe) htc.1 htc.2 (he.new hbe).ev
 obtain ⟨r1, hr1⟩ : ∃ r, bytesS 1048576 (text, 0) = r := ⟨_, rfl⟩
 obtain ⟨r2, hr2⟩ : ∃ r, bytesS 1048576 r1.1 = r := ⟨_, rfl⟩
 obtain ⟨R, hR⟩ : ∃ R, C.install x.ms text = R := ⟨_, rfl⟩
 have HR := Lib.hid hR
 have E1 := Lib.hid hr1
 have E2 := Lib.hid hr2
 rw [hR]
 have H := Lib.hid (And.intro h (And.intro ho (And.intro he (And.intro b0 (And.intro hbe hz0)))))
 have HW := Lib.hid hW0
 have Hread := Lib.hid hread
 clear hW0 b0 hbe hz0 hread h ho he ht htc hr1 hr2 hR
 unfold Mr.val
 go_enter Tryz.func129, Tryz.ntmps129
 go_upto_region 1 with (fail)
 have HW' := HW.out
 unfold Mr.cells at HW'
 rw [← HW']
 clear HW'
 go_wp2_with fail
 refine Hread.out.mono ?_
 rintro e w1 ⟨rfl, rr1, hb1⟩
 have hby := bytes_rd W0.heap.size (text, 0) 1048576 w1 rr1 (by omega)
 rw [E1.out] at hby
 have Hby := Lib.hid hby
 have K1 := Lib.hid hb1
 have RL := Lib.hid rr1.lt
 clear hby rr1 hb1
 go_wp2_with fail
 refine Hby.out.mono ?_
 intro e w2 h2
 obtain ⟨A2, n2, c2, rfl, o2, rr2, g2⟩ := h2
 have hby := bytes_rd W0.heap.size r1.1 1048576 w2 rr2 (by omega)
 rw [E2.out] at hby
 have Hby2 := Lib.hid hby
 have K2 := Lib.hid (And.intro o2 g2)
 clear hby rr2 o2 g2 Hby
 go_wp2_with fail
 refine Hby2.out.mono ?_
 intro e w3 h3
 obtain ⟨A3, n3, c3, rfl, o3, rr3, g3⟩ := h3
 have hz0 : W0.heap.size = w.heap.size + 1 := H.out.2.2.2.2.2
 have hz1 : W0.heap.size < w1.heap.size := RL.out
 have hbr : Below W0.heap.size W0 w3 := (K1.out.trans (gb_below K2.out.2 hz1)).trans (gb_below g3 (by have := K2.out.2.size; omega))
 have hbw : Below w.heap.size w w3 := H.out.2.2.2.2.1.trans (hbr.mono H.out.2.2.2.2.1.size)
 have rA2 : Rd w3 (w1.heap.size ≤ ·) 1 A2 n2 (bs r1.2) := Rd.of_own (own_gb K2.out.1 g3 hz1)
 have rA3 : Rd w3 (w2.heap.size ≤ ·) 1 A3 n3 (bs r2.2) := Rd.of_own o3
 have b3 : Bx w3 w.heap.size x.cells := H.out.2.2.2.1.below hbr
 have hcp2 := own_cp K2.out.1
 have hcp3 := own_cp o3
 have hsz2 := K2.out.2.size
 have hcd := cdec_any A2 n2 c2 r1.2 w3 rA2 hcp2.1 hcp2.2 (H.out.2.2.1.new hbw).ev
 obtain ⟨oc, hoc⟩ : ∃ q, confD r1.2 = q := ⟨_, rfl⟩
 rw [hoc] at hcd
 have Hcd := Lib.hid hcd
 have EC := Lib.hid hoc
 have K3 := Lib.hid (And.intro hbw (And.intro rA3 (And.intro b3 (And.intro hcp3 (And.intro rr3 (And.intro hz0 (And.intro hz1 hsz2)))))))
 clear hbr hbw rA2 rA3 b3 hcp2 hcp3 hsz2 hcd hoc hz0 hz1 o3 rr3 g3 Hby2
 go_wp2_with fail
 refine Hcd.out.mono ?_
 intro e w4 h4
 cases oc with
 | none =>
  rw [CdPost_none, show errE 3 = .iface 105 (.int .i64 3) from rfl] at h4
  obtain ⟨rfl, hb4⟩ := h4
  have hdn := done_rd _ _ w4 (K3.out.2.2.2.2.1.gb hb4)
  have hbw4 := K3.out.1.trans (hb4.mono K3.out.1.size)
  have HN := Lib.hid (inst_none (C := C) (x := x.ms) (text := text) (.inr (by rw [E1.out, EC.out])))
  obtain ⟨ds, hds⟩ : ∃ q, doneS r2.1 = q := ⟨_, rfl⟩
  rw [hds] at hdn
  have Hdn := Lib.hid hdn
  have K4 := Lib.hid hbw4
  clear hdn hb4 hbw4 hds
  go_wp2_with fail
  refine Hdn.out.mono ?_
  rintro e w5 ⟨rfl, e5⟩
  rw [e5]
  clear e5
  by_cases hd0 : ds = 0
  ·subst hd0
   rw [errE0]
   go_wp2_with fail
   go_ret
   rw [← HR.out, HN.out]
   exact ⟨V, U, m, rfl, (CTo.refl H.out.1).below K4.out⟩
  ·rw [errE_ne hd0]
   go_wp2_with fail
   go_ret
   rw [← HR.out, HN.out]
   exact ⟨V, U, m, rfl, (CTo.refl H.out.1).below K4.out⟩
 | some cf =>
  rw [CdPost_some, errE0] at h4
  obtain ⟨A4, n4, c4, rfl, o4, hb4⟩ := h4
  have hdn := done_rd _ _ w4 (K3.out.2.2.2.2.1.gb hb4)
  have hbw4 := K3.out.1.trans (hb4.mono K3.out.1.size)
  have b4 := K3.out.2.2.1.below hb4
  have rS := K3.out.2.1.below hb4
  have rC := Rd.of_own o4
  have hcp4 := own_cp o4
  obtain ⟨ds, hds⟩ : ∃ q, doneS r2.1 = q := ⟨_, rfl⟩
  rw [hds] at hdn
  have Hdn := Lib.hid hdn
  have ED := Lib.hid hds
  have hw2 : w.heap.size < w2.heap.size := by have h1 := K3.out.2.2.2.2.2.1; have h2 := K3.out.2.2.2.2.2.2.1; have h3 := K3.out.2.2.2.2.2.2.2; omega
  have hw3 : w.heap.size ≤ w3.heap.size := K3.out.1.size
  have K4 := Lib.hid (And.intro hbw4 (And.intro b4 (And.intro rS (And.intro rC (And.intro hcp4 (And.intro hb4.size (And.intro hw2 hw3)))))))
  clear hdn hb4 hbw4 b4 rS rC hcp4 o4 hds hw2 hw3
  go_wp2_with fail
  refine Hdn.out.mono ?_
  rintro e w5 ⟨rfl, e5⟩
  rw [e5]
  clear e5 Hdn
  by_cases hd0 : ds = 0
  case neg =>
   rw [errE_ne hd0]
   have HN := Lib.hid (inst_none (C := C) (x := x.ms) (text := text) (.inl (by rw [E1.out, E2.out, ED.out]; exact hd0)))
   go_wp2_with fail
   go_ret
   rw [← HR.out, HN.out]
   exact ⟨V, U, m, rfl, (CTo.refl H.out.1).below K4.out.1⟩
  case pos =>
   subst hd0
   rw [errE0]
   have i4 : w4.cell? ⟨w.heap.size, 4, none⟩ = some (.int .i64 x.ix) := K4.out.2.1.c 4
   have i5 : w4.cell? ⟨w.heap.size, 5, none⟩ = some (.int .i64 x.lt) := K4.out.2.1.c 5
   go_upto_region 7 with (fail)
   obtain ⟨W5, hW5⟩ : ∃ W5, W5 = w4.alloc (.cells #[.int .i64 x.ix, .int .i64 x.lt, .slice none 0 0] 38) := ⟨_, rfl⟩
   have z5 : Bx W5 w4.heap.size #[.int .i64 x.ix, .int .i64 x.lt, .slice none 0 0] := by subst hW5; exact Bx.new w4 _ 38 rfl
   have h45 : Below w4.heap.size w4 W5 := by subst hW5; exact (Below.refl _ _).alloc (Nat.le_refl _) _
   rw [← hW5]
   have hz5 : w.heap.size ≤ w4.heap.size := K4.out.1.size
   have hbw5 : Below w.heap.size w W5 := K4.out.1.trans (h45.mono hz5)
   have hz55 : W5.heap.size = w4.heap.size + 1 := by rw [hW5]; simp
   have HZ5 := Lib.hid hz55
   clear hz55
   have hto5 : CTo fb w p V U C W5 V (fun b => U b ∨ b = w4.heap.size) m := by
    refine ⟨H.out.1.wide (fun b hb => .inl hb) (fun b hl hb => hb.elim id fun e => by omega) (fun b hl _ => hbw5.block b hl) hbw5.size (fun b hb => hb.elim (fun h9 => Nat.lt_of_lt_of_le (H.out.1.ul b h9) hbw5.size) fun e => e ▸ z5.lt), fun _ h => .inl h, fun _ h => .inl h, fun b hb => hb.elim .inl fun e => .inr (by omega), (Kept.of_new hbw5)⟩
   have hzV : ¬ V w4.heap.size := fun hv => by have := H.out.1.ul _ (H.out.1.vu _ hv); omega
   have b5 := K4.out.2.1.below h45
   have hft := H.out.1.fit H.out.2.1
   have hcx5 := hto5.cx
   obtain ⟨k1, k2, k3, k4, k5, k6, k7⟩ := hcx5.s_eq
   have hterm := fun W (hb : Below W5.heap.size W5 W) => hcx5.term hft x.ix W hb
   have hcomp := fun W (hb : Below W5.heap.size W5 W) => compA_any m.s.b m.s.t x.ix m.s.A m.s.n m.s.c m.s.L W (hcx5.below hb).at_.l.any (hcx5.below hb).at_.dat (hcx5.at_.wel hft) (fun y hy => (hft.w y hy).2) hft.z.1 hcx5.at_.k1.1 hcx5.at_.k1.2
   rw [hcx5.termOf] at hcomp
   obtain ⟨⟨kt, tt⟩, hkt⟩ : ∃ q, C.termOf x.ix = q := ⟨_, rfl⟩
   rw [hkt] at hterm hcomp
   have F5 : Hid (∀ W, Below W5.heap.size W5 W → (W.cell? ⟨p, 2, none⟩ = some (.int .i64 m.s.b) ∧ W.cell? ⟨p, 3, none⟩ = some (.int .i64 m.s.t) ∧ W.cell? ⟨p, 4, none⟩ = some (.slice m.s.A m.s.n m.s.c)) ∧ W.cell? ⟨w.heap.size, 4, none⟩ = some (.int .i64 x.ix) ∧ W.cell? ⟨w.heap.size, 5, none⟩ = some (.int .i64 x.lt)) := Lib.hid fun W hb => by
    have hxx := (hcx5.below hb).bx
    exact ⟨⟨hxx.c 2, hxx.c 3, hxx.c 4⟩, (b5.below hb).c 4, (b5.below hb).c 5⟩
   have Hterm := Lib.hid hterm
   have Hcomp := Lib.hid hcomp
   have ET := Lib.hid hkt
   have K5 := Lib.hid (And.intro z5 (And.intro h45 (And.intro hz5 (And.intro hbw5 (And.intro hto5 (And.intro hzV (And.intro b5 hft)))))))
   have KE := Lib.hid (And.intro k1 (And.intro k2 (And.intro k3 (And.intro k4 (And.intro k5 (And.intro k6 k7))))))
   clear hW5 z5 h45 hz5 hbw5 hto5 hzV b5 hft hcx5 k1 k2 k3 k4 k5 k6 k7 hterm hcomp hkt i4 i5 Hread Hcd HW
   refine wp_region_S 12 (fun W => Below W5.heap.size W5 W) ((.take 0 (.take 1 (.take 2 (.take 3 (.take 4 (.take 5 (.take 6 (.one 7 (.take 8 (.take 9 (.take 10 (.take 11 (.one 12 (.nil))))))))))))))) (by kernel_rfl) (Below.refl _ _).drew (fun _ _ _ _ h => h) (fun hS => ?_)
   repeat (first
    | (refine wpS_take (v := ?_) rfl rfl (by rfl) ?_ ?_; rotate_left; (intro W hW; have hf := F5.out W hW; go_split_ands; go_simp; try with_reducible rfl); try simp only [Act.put, lyA, lyB, lyC])
    | (refine wpS_skip rfl rfl (by rfl) ?_; try simp only [Act.put, lyA, lyB, lyC]))
   refine wpS_one rfl (by rfl) (fun K hK => ?_)
   go_simp
   go_at_call 119
   refine (Hterm.out _ hS).mono ?_
   rintro e w6 ⟨rfl, hb6⟩
   have hS6 : Below W5.heap.size W5 w6 := hS.trans (hb6.mono hS.size)
   clear hS hb6
   refine hK (fun W => Below W5.heap.size W5 W) _ _ (fun _ h => h) hS6 ?_
   clear hK K
   try simp only [Act.put, lyA, lyB, lyC]
   repeat (first
    | (refine wpS_take (v := ?_) rfl rfl (by rfl) ?_ ?_; rotate_left; (intro W hW; have hf := F5.out W hW; go_split_ands; go_simp; try with_reducible rfl); try simp only [Act.put, lyA, lyB, lyC])
    | (refine wpS_skip rfl rfl (by rfl) ?_; try simp only [Act.put, lyA, lyB, lyC]))
   refine wpS_last rfl (by rfl) (fun K hK => ?_)
   go_simp
   refine hK _ _ ?_
   clear hK K
   try simp only [Act.put, lyA, lyB, lyC]
   refine wpS_nil ?_
   go_upto_region 8 with (fail)
   have i5 : w6.cell? ⟨w.heap.size, 5, none⟩ = some (.int .i64 x.lt) := (F5.out w6 hS6).2.2
   go_cut [13, 14, 58] (fun _ _ s58 W => ∃ rb, s58 = .bool rb ∧ (rb = true ↔ kt = 0 ∧ tt = x.lt) ∧ W = w6)
   case first =>
    clear Hcomp Hterm hS6
    by_cases hk0 : kt = 0
    case neg =>
     rw [show errC kt = .iface 105 (.int .i64 kt) from if_neg hk0]
     have HK0 := Lib.hid hk0
     clear hk0
     go_wp2_with fail
     go_meet
     case rel => exact ⟨_, rfl, ⟨fun h => by first | cases h | simp at h, fun h => absurd h.1 HK0.out⟩, rfl⟩
    case pos =>
     subst hk0
     rw [show errC 0 = .nilIface from rfl]
     go_wp2_with fail
     all_goals
      go_meet
      case rel => exact ⟨_, rfl, by simp, rfl⟩
   case rest =>
    obtain ⟨rb, rfl, hrb, hwc⟩ := hcut
    rw [hwc]
    have HRB := Lib.hid hrb
    clear hwc hrb i5
    go_upto_if 58 with (fail)
    go_cut [15, 16] (fun _ _ W => InstCut W5 w4.heap.size C x W)
    case first =>
     cases rb with
     | false =>
      clear Hcomp
      go_wp2_with fail
      go_meet
      case rel => exact InstCut.no K5.out.1 hS6 ET.out (fun h => Bool.noConfusion (HRB.out.2 h))
     | true =>
      obtain ⟨hk0, hlt⟩ := HRB.out.1 rfl
      subst hk0 hlt
      go_upto_region 9 with (fail)
      refine wp_region_S 13 (fun W => Below W5.heap.size W5 W) ((.take 0 (.take 1 (.take 2 (.take 3 (.take 4 (.take 5 (.take 6 (.two 7 11 (.take 8 (.take 9 (.take 10 (.one 11 (.one 12 (.one 13 (.nil))))))) (.one 7 (.take 8 (.take 9 (.take 10 (.one 12 (.one 13 (.nil)))))))))))))))) (by kernel_rfl) hS6.drew (fun _ _ _ _ h => h) (fun hS => ?_)
      repeat (first
       | (refine wpS_take (v := ?_) rfl rfl (by rfl) ?_ ?_; rotate_left; (intro W hW; have hf := F5.out W hW; go_split_ands; go_simp; try with_reducible rfl); try simp only [Act.put, lyA, lyB, lyC])
       | (refine wpS_skip rfl rfl (by rfl) ?_; try simp only [Act.put, lyA, lyB, lyC]))
      refine wpS_two rfl rfl (by rfl) (by rfl) (fun K hK => ?_) (fun K hK => ?_)
      ·go_simp
       go_at_call 96
       refine (Hcomp.out _ hS).mono ?_
       intro e w7 h7
       unfold CompPost at h7
       rw [if_pos rfl] at h7
       obtain ⟨A', c', L', mm, rfl, q1, q2, q3, q4, q5, q6, q7⟩ := h7
       have hS7 : Below W5.heap.size W5 w7 := hS.trans (q7.mono hS.size)
       have Q7 := Lib.hid (And.intro (And.intro q1 (And.intro q2 (And.intro q5 q6))) (And.intro q3 (And.intro q4 hS.size)))
       refine hK (fun W => Below W5.heap.size W5 W) _ _ (fun _ h => h) hS7 ?_
       clear hK K q1 q2 q3 q4 q5 q6 q7 hS
       try simp only [Act.put, lyA, lyB, lyC]
       repeat (first
        | (refine wpS_take (v := ?_) rfl rfl (by rfl) ?_ ?_; rotate_left; (intro W hW; have hf := F5.out W hW; go_split_ands; go_simp; try with_reducible rfl); try simp only [Act.put, lyA, lyB, lyC])
        | (refine wpS_skip rfl rfl (by rfl) ?_; try simp only [Act.put, lyA, lyB, lyC]))
       refine wpS_one rfl (by rfl) (fun K hK => ?_)
       go_simp
       obtain ⟨W8, hW8⟩ : ∃ W8, W8 = w7.alloc (.cells #[.int .i64 0, .int .i64 0, .slice none 0 0] 38) := ⟨_, rfl⟩
       have b8 : Bx W8 w7.heap.size #[.int .i64 0, .int .i64 0, .slice none 0 0] := by subst hW8; exact Bx.new _ _ _ rfl
       have h78 : Below w7.heap.size w7 W8 := by subst hW8; exact (Below.refl _ _).alloc (Nat.le_refl _) _
       rw [← hW8]
       have hS8 : Below W5.heap.size W5 W8 := hS7.trans (h78.mono hS7.size)
       have Q8 := Lib.hid (And.intro b8 (And.intro h78 hS7.size))
       refine hK (fun W => Below W5.heap.size W5 W) _ _ (fun _ h => h) hS8 ?_
       clear hK K hW8 h78
       try simp only [Act.put, lyA, lyB, lyC]
       obtain ⟨i0, i1, i2, f0, f1, f2⟩ := b8.c3
       clear b8
       refine wpS_one rfl (by rfl) (fun K hK => ?_)
       go_simp
       refine hK (fun W => Below W5.heap.size W5 W) _ _ (fun _ h => h) (((hS8.setCell (p := ⟨w7.heap.size, 0, none⟩) hS7.size _).setCell (p := ⟨w7.heap.size, 1, none⟩) hS7.size _).setCell (p := ⟨w7.heap.size, 2, none⟩) hS7.size _) ?_
       clear hK K i0 i1 i2 f0 f1 f2
       try simp only [Act.put, lyA, lyB, lyC]
       repeat (first
        | (refine wpS_take (v := ?_) rfl rfl (by rfl) ?_ ?_; rotate_left; (intro W hW; have hf := F5.out W hW; go_split_ands; go_simp; try with_reducible rfl); try simp only [Act.put, lyA, lyB, lyC])
        | (refine wpS_skip rfl rfl (by rfl) ?_; try simp only [Act.put, lyA, lyB, lyC]))
       refine wpS_last rfl (by rfl) (fun K hK => ?_)
       go_simp
       refine hK _ _ ?_
       clear hK K
       try simp only [Act.put, lyA, lyB, lyC]
       refine wpS_nil ?_
       obtain ⟨W9, hW9⟩ : ∃ W9, W9 = ((W8.setCell ⟨w7.heap.size, 0, none⟩ (.int .i64 x.ix)).setCell ⟨w7.heap.size, 1, none⟩ (.int .i64 x.lt)).setCell ⟨w7.heap.size, 2, none⟩ (.slice A' (m.s.n - mm) c') := ⟨_, rfl⟩
       have b9 : Bx W9 w7.heap.size #[.int .i64 x.ix, .int .i64 x.lt, .slice A' (m.s.n - mm) c'] := by subst hW9; exact ((Q8.out.1.set 0 _).set 1 _).set 2 _
       have h79 : Below w7.heap.size w7 W9 := by subst hW9; exact ((Q8.out.2.1.setCell (p := ⟨w7.heap.size, 0, none⟩) (Nat.le_refl _) _).setCell (p := ⟨w7.heap.size, 1, none⟩) (Nat.le_refl _) _).setCell (p := ⟨w7.heap.size, 2, none⟩) (Nat.le_refl _) _
       have hS9 : Below W5.heap.size W5 W9 := hS7.trans (h79.mono hS7.size)
       rw [← hW9]
       clear hW9 hS8
       obtain ⟨i0, i1, i2, -⟩ := b9.c3
       have bz9 := K5.out.1.below hS9
       obtain ⟨y0, y1, y2, f0, f1, f2⟩ := bz9.c3
       have hrd : Rd W9 (W5.heap.size ≤ ·) 4 A' (m.s.n - mm) (flat ecell L') := (Q7.out.2.1.below h79).mono fun b hb => Nat.le_trans Q7.out.2.2.2 hb
       have hdt : DatB W9 W5.heap.size L' := fun y hy => ⟨((Q7.out.2.2.1 y hy).1.below h79).mono fun b hb => Nat.le_trans Q7.out.2.2.2 hb, (Q7.out.2.2.1 y hy).2⟩
       have LL := Lib.hid (And.intro bz9 (And.intro hS9 (And.intro hrd (And.intro hdt Q7.out.1))))
       clear h79 b9 bz9 hS9 hrd hdt hS7
       go_wp2_with fail
       go_meet
       case rel => exact InstCut.yes LL.out.1 LL.out.2.1 K5.out.1.lt ET.out LL.out.2.2.2.2.2.1 KE.out.2.2.1 KE.out.2.2.2.2.1 LL.out.2.2.1 LL.out.2.2.2.1 LL.out.2.2.2.2.2.2.2 LL.out.2.2.2.2.2.2.1
      ·go_simp
       obtain ⟨W8, hW8⟩ : ∃ W8, W8 = (w6.alloc (.cells #[.int .i64 0, .int .i64 0, .slice none 0 0] 38)).drew := ⟨_, rfl⟩
       have b8 : Bx W8 w6.heap.size #[.int .i64 0, .int .i64 0, .slice none 0 0] := by subst hW8; exact (Bx.new w6 _ 38 rfl).drew
       have h68 : Below w6.heap.size w6 W8 := by subst hW8; exact ((Below.refl _ _).alloc (Nat.le_refl _) _).drew
       have hz8 : W8.heap.size = w6.heap.size + 1 := by subst hW8; show (w6.alloc _).heap.size = _; simp
       have hS8 : Below W5.heap.size W5 W8 := hS6.trans (h68.mono hS6.size)
       have hs6 : W5.heap.size ≤ w6.heap.size := hS6.size
       rw [← hW8]
       refine hK (fun W => Below W5.heap.size W5 W) _ _ (fun _ h => h) hS8 ?_
       clear hK K hW8 hS
       try simp only [Act.put, lyA, lyB, lyC]
       refine wpS_one rfl (by rfl) (fun K hK => ?_)
       go_simp
       go_at_call 96
       refine (Hcomp.out _ hS8).mono ?_
       intro e w7 h7
       unfold CompPost at h7
       rw [if_pos rfl] at h7
       obtain ⟨A', c', L', mm, rfl, q1, q2, q3, q4, q5, q6, q7⟩ := h7
       have hS7 : Below W5.heap.size W5 w7 := hS8.trans (q7.mono hS8.size)
       have b7 := b8.below q7
       have Q7 := Lib.hid (And.intro (And.intro q1 (And.intro q2 (And.intro q5 q6))) (And.intro q3 (And.intro q4 (And.intro hs6 (And.intro b7 hz8)))))
       refine hK (fun W => Below W5.heap.size W5 W) _ _ (fun _ h => h) hS7 ?_
       clear hK K q1 q2 q3 q4 q5 q6 q7 b8 hz8 h68 hS8
       try simp only [Act.put, lyA, lyB, lyC]
       repeat (first
        | (refine wpS_take (v := ?_) rfl rfl (by rfl) ?_ ?_; rotate_left; (intro W hW; have hf := F5.out W hW; go_split_ands; go_simp; try with_reducible rfl); try simp only [Act.put, lyA, lyB, lyC])
        | (refine wpS_skip rfl rfl (by rfl) ?_; try simp only [Act.put, lyA, lyB, lyC]))
       obtain ⟨i0, i1, i2, f0, f1, f2⟩ := b7.c3
       clear b7
       refine wpS_one rfl (by rfl) (fun K hK => ?_)
       go_simp
       refine hK (fun W => Below W5.heap.size W5 W) _ _ (fun _ h => h) (((hS7.setCell (p := ⟨w6.heap.size, 0, none⟩) hs6 _).setCell (p := ⟨w6.heap.size, 1, none⟩) hs6 _).setCell (p := ⟨w6.heap.size, 2, none⟩) hs6 _) ?_
       clear hK K i0 i1 i2 f0 f1 f2
       try simp only [Act.put, lyA, lyB, lyC]
       repeat (first
        | (refine wpS_take (v := ?_) rfl rfl (by rfl) ?_ ?_; rotate_left; (intro W hW; have hf := F5.out W hW; go_split_ands; go_simp; try with_reducible rfl); try simp only [Act.put, lyA, lyB, lyC])
        | (refine wpS_skip rfl rfl (by rfl) ?_; try simp only [Act.put, lyA, lyB, lyC]))
       refine wpS_last rfl (by rfl) (fun K hK => ?_)
       go_simp
       refine hK _ _ ?_
       clear hK K
       try simp only [Act.put, lyA, lyB, lyC]
       refine wpS_nil ?_
       obtain ⟨W9, hW9⟩ : ∃ W9, W9 = ((w7.setCell ⟨w6.heap.size, 0, none⟩ (.int .i64 x.ix)).setCell ⟨w6.heap.size, 1, none⟩ (.int .i64 x.lt)).setCell ⟨w6.heap.size, 2, none⟩ (.slice A' (m.s.n - mm) c') := ⟨_, rfl⟩
       have b9 : Bx W9 w6.heap.size #[.int .i64 x.ix, .int .i64 x.lt, .slice A' (m.s.n - mm) c'] := by subst hW9; exact ((Q7.out.2.2.2.2.1.set 0 _).set 1 _).set 2 _
       have hS9 : Below W5.heap.size W5 W9 := by subst hW9; exact ((hS7.setCell (p := ⟨w6.heap.size, 0, none⟩) hs6 _).setCell (p := ⟨w6.heap.size, 1, none⟩) hs6 _).setCell (p := ⟨w6.heap.size, 2, none⟩) hs6 _
       have hk9 : ∀ b, b ≠ w6.heap.size → W9.heap[b]? = w7.heap[b]? := fun b hb => by subst hW9; exact three_ne hb
       rw [← hW9]
       clear hW9
       have hz8 : W8.heap.size = w6.heap.size + 1 := Q7.out.2.2.2.2.2
       obtain ⟨i0, i1, i2, -⟩ := b9.c3
       have bz9 := K5.out.1.below hS9
       obtain ⟨y0, y1, y2, f0, f1, f2⟩ := bz9.c3
       have hrd : Rd W9 (W5.heap.size ≤ ·) 4 A' (m.s.n - mm) (flat ecell L') := (Q7.out.2.1.keep fun b hb _ => hk9 b (by have h9 : W8.heap.size ≤ b := hb; omega)).mono fun b hb => (by have h9 : W8.heap.size ≤ b := hb; omega)
       have hdt : DatB W9 W5.heap.size L' := fun y hy => ⟨((Q7.out.2.2.1 y hy).1.keep fun b hb _ => hk9 b (by have h9 : W8.heap.size ≤ b := hb; omega)).mono fun b hb => (by have h9 : W8.heap.size ≤ b := hb; omega), (Q7.out.2.2.1 y hy).2⟩
       have LL := Lib.hid (And.intro bz9 (And.intro hS9 (And.intro hrd (And.intro hdt Q7.out.1))))
       clear hk9 hz8 hs6 b9 bz9 hS9 hrd hdt hS7
       go_wp2_with fail
       go_meet
       case rel => exact InstCut.yes LL.out.1 LL.out.2.1 K5.out.1.lt ET.out LL.out.2.2.2.2.2.1 KE.out.2.2.1 KE.out.2.2.2.2.1 LL.out.2.2.1 LL.out.2.2.2.1 LL.out.2.2.2.2.2.2.2 LL.out.2.2.2.2.2.2.1
    case rest =>
     obtain ⟨A', n', c', L', q1, q2, q3, q4, q5, q6⟩ := hcut
     obtain ⟨w8, hw8⟩ : ∃ w8, w8 = wc := ⟨_, rfl⟩
     rw [← hw8] at q1 q2 q3 q6 ⊢
     clear hw8
     have hto8 := K5.out.2.2.2.2.1.sideK (zb := w4.heap.size) ⟨.inr rfl, K5.out.2.2.2.2.2.1⟩ K5.out.2.2.1 q6
     have hb8 : Bx w8 w.heap.size x.cells := K5.out.2.2.2.2.2.2.1.keep (q6.block _ K5.out.2.2.2.2.2.2.1.lt fun e => by have h1 := K4.out.2.2.2.2.2.2.1; have h2 := K4.out.2.2.2.2.2.2.2; have h3 := K4.out.2.2.2.2.2.1; have h4 := K3.out.2.2.2.2.1.lt; have h5 := K3.out.2.2.2.2.2.1; have h9 : w.heap.size = w4.heap.size := e; omega)
     have hnp : p < w.heap.size := H.out.1.bx.lt
     have rCf : Rd w8 (fun b => w.heap.size ≤ b ∧ b ≠ w4.heap.size) 1 A4 n4 (ii cf) := by
      have h1 := (K4.out.2.2.2.1.lt (by omega)).mono (ok' := fun b => w.heap.size ≤ b ∧ b < w4.heap.size) fun b hb => ⟨Nat.le_trans K4.out.2.2.2.2.2.2.2 hb.1, hb.2⟩
      exact (q6.rd (h1.below K5.out.2.1) fun b hb e => by have h9 : b = w4.heap.size := e; have := hb.2; omega).mono fun b hb => ⟨hb.1, fun e => by have := hb.2; omega⟩
     have rSn : Rd w8 (fun b => w.heap.size ≤ b ∧ b ≠ w4.heap.size) 1 A3 n3 (bs r2.2) := by
      have h1 := (K4.out.2.2.1.lt (by omega)).mono (ok' := fun b => w.heap.size ≤ b ∧ b < w4.heap.size) fun b hb => ⟨Nat.le_trans (Nat.le_of_lt K4.out.2.2.2.2.2.2.1) hb.1, hb.2⟩
      exact (q6.rd (h1.below K5.out.2.1) fun b hb e => by have h9 : b = w4.heap.size := e; have := hb.2; omega).mono fun b hb => ⟨hb.1, fun e => by have := hb.2; omega⟩
     have hz : W5.heap.size = w4.heap.size + 1 := HZ5.out
     have L8 := Lib.hid (And.intro q1 (And.intro q2 (And.intro q3 (And.intro q4 (And.intro q5 (And.intro hto8 (And.intro hb8 (And.intro hnp (And.intro rCf (And.intro rSn hz))))))))))
     obtain ⟨i0, i1, i2, -⟩ := q1.c3
     have p2 : w8.cell? ⟨p, 2, none⟩ = some (.int .i64 m.s.b) := hto8.cx.bx.c 2
     have p3 : w8.cell? ⟨p, 3, none⟩ = some (.int .i64 m.s.t) := hto8.cx.bx.c 3
     have p4 : w8.cell? ⟨p, 4, none⟩ = some (.slice m.s.A m.s.n m.s.c) := hto8.cx.bx.c 4
     have p5 : w8.cell? ⟨p, 5, none⟩ = some (.slice m.s.C m.s.nc m.s.cc) := hto8.cx.bx.c 5
     have p6 : w8.cell? ⟨p, 6, none⟩ = some (.slice m.s.S m.s.ns m.s.cs) := hto8.cx.bx.c 6
     have f2 := hto8.cx.bx.f 2
     have f3 := hto8.cx.bx.f 3
     have f4 := hto8.cx.bx.f 4
     have f5 := hto8.cx.bx.f 5
     have f6 := hto8.cx.bx.f 6
     clear q1 q2 q3 q4 q5 q6 hto8 hb8 hnp rCf rSn hz Hterm Hcomp F5
     go_upto_region 13 with (fail)
     obtain ⟨W9, hW9⟩ : ∃ W9, W9 = ((((w8.setCell ⟨p, 2, none⟩ (.int .i64 x.ix)).setCell ⟨p, 3, none⟩ (.int .i64 x.lt)).setCell ⟨p, 4, none⟩ (.slice A' n' c')).setCell ⟨p, 5, none⟩ (.slice A4 n4 c4)).setCell ⟨p, 6, none⟩ (.slice A3 n3 c3) := ⟨_, rfl⟩
     have g9 : w8.grownBy W9 (some p) := by subst hW9; exact gb_trans (gb_trans (gb_trans (gb_trans (gb_set _ p 2 _) (gb_set _ p 3 _)) (gb_set _ p 4 _)) (gb_set _ p 5 _)) (gb_set _ p 6 _)
     have b9 : Bx W9 p (((((( m.cells C).setIfInBounds 2 (.int .i64 x.ix)).setIfInBounds 3 (.int .i64 x.lt)).setIfInBounds 4 (.slice A' n' c')).setIfInBounds 5 (.slice A4 n4 c4)).setIfInBounds 6 (.slice A3 n3 c3)) := by
      subst hW9
      exact ((((L8.out.2.2.2.2.2.1.cx.bx.set 2 _).set 3 _).set 4 _).set 5 _).set 6 _
     rw [← hW9]
     have j4 : W9.cell? ⟨w.heap.size, 4, none⟩ = some (.int .i64 x.ix) := (L8.out.2.2.2.2.2.2.1.keep (g9.block _ L8.out.2.2.2.2.2.2.1.lt fun e => by have := L8.out.2.2.2.2.2.2.2.1; have h9 := Option.some.inj e; omega)).c 4
     have j9 : W9.cell? ⟨p, 9, none⟩ = some (.int .i64 C.commit) := b9.c 9
     have f9 := b9.f 9
     have N9 := Lib.hid (And.intro g9 b9)
     clear hW9 g9 b9 i0 i1 i2 p2 p3 p4 p5 p6 f2 f3 f4 f5 f6
     go_wp2_with fail
     go_ret
     rw [← HR.out, inst_some (x := x.ms) (by rw [E1.out, E2.out, ED.out]) (by rw [E1.out, EC.out])]
     rw [E1.out, E2.out]
     refine ⟨V, fun b => U b ∨ b = w4.heap.size, { m with s := { m.s with b := x.ix, t := x.lt, A := A', n := n', c := c', L := L', C := A4, nc := n4, cc := c4, cf := cf, S := A3, ns := n3, cs := c3, sn := r2.2 } }, rfl, ?_⟩
     have hnu : ∀ b, w.heap.size ≤ b ∧ b ≠ w4.heap.size → ¬ (U b ∨ b = w4.heap.size) := fun b hb h9 => h9.elim (fun h8 => by have := H.out.1.ul b h8; have := hb.1; omega) hb.2
     have hw5 : ∀ b, W5.heap.size ≤ b → w.heap.size ≤ b ∧ b ≠ w4.heap.size := fun b hb => by have h1 := K5.out.2.2.1; have h2 := L8.out.2.2.2.2.2.2.2.2.2.2; omega
     refine CTo.sNew L8.out.2.2.2.2.2.1 (N9.out.2.set 9 _) (gb_trans N9.out.1 (gb_set _ p 9 _)) ⟨L8.out.2.1.mono fun b hb => hnu b (hw5 b hb), fun y hy => ⟨(L8.out.2.2.1 y hy).1.mono fun b hb => hnu b (hw5 b hb), (L8.out.2.2.1 y hy).2⟩, L8.out.2.2.2.2.2.2.2.2.1.mono hnu, L8.out.2.2.2.2.2.2.2.2.2.1.mono hnu, L8.out.2.2.2.1, K4.out.2.2.2.2.1, K3.out.2.2.2.1⟩ ?_ rfl rfl rfl
     show (⟨C.s.tm, C.s.vt, x.ix, x.lt, instL C x.ms, cf, r2.2⟩ : St) = ⟨m.s.tm, m.s.vt, x.ix, x.lt, L'.map en, cf, r2.2⟩
     rw [KE.out.1, KE.out.2.1, L8.out.2.2.2.2.1]
theorem putR_ok {bk key off : Int} {h piece : List UInt8} {last : Bool} (hb : I64 bk) (hk : I64 key) (hh : h.length ≤ 1048576) : I64 (putR bk h key off piece last).1 ∧ (putR bk h key off piece last).2.1.length ≤ 1048576 := by
 unfold putR
 split
 ·exact ⟨hb, hh⟩
 ·next h1 =>
  split
  ·exact ⟨hk, by simp⟩
  ·refine ⟨hk, ?_⟩
   show (putHave bk h key off ++ piece).length ≤ 1048576
   simp only [not_or] at h1
   rw [List.length_append]
   omega
theorem takeC_low {C : Cr} {x : Ms} {draw : Int} (h : x.term < C.s.tm) : C.take x draw = (C, [{ C.say 6 x.fr with ix := x.ix }]) := by unfold Cr.take; rw [if_pos h]
theorem takeC_old {C : Cr} {x : Ms} {draw : Int} (h : ¬ x.term < C.s.tm) (h2 : x.ix ≤ C.commit) : C.take x draw = (C.led x draw, [{ C.say 6 x.fr with ix := x.ix, rd := x.rd, ok := true }]) := by
 unfold Cr.take
 rw [if_neg h]
 exact if_pos h2
def Cr.gets (C : Cr) (r : Int × List UInt8 × List UInt8 × Int × Bool) : Cr := { C with key := r.1, hv := r.2.1 }
theorem takeC_more {C : Cr} {x : Ms} {draw : Int} {r : Int × List UInt8 × List UInt8 × Int × Bool} (h : ¬ x.term < C.s.tm) (h2 : ¬ x.ix ≤ C.commit) (hr : putR C.key C.hv x.ix x.off x.data x.ok = r) (hd : r.2.2.2.2 = false) : C.take x draw = ((C.led x draw).gets r, [{ C.say 6 x.fr with ix := x.ix, rd := x.rd, off := r.2.2.2.1 }]) := by
 unfold Cr.take
 rw [if_neg h]
 refine (if_neg h2).trans ?_
 subst hr
 exact if_pos hd
theorem takeC_zero {C : Cr} {x : Ms} {draw : Int} {r : Int × List UInt8 × List UInt8 × Int × Bool} (h : ¬ x.term < C.s.tm) (h2 : ¬ x.ix ≤ C.commit) (hr : putR C.key C.hv x.ix x.off x.data x.ok = r) (hd : ¬ r.2.2.2.2 = false) (hl : x.lt < 1) : C.take x draw = ((C.led x draw).gets r, []) := by
 unfold Cr.take
 rw [if_neg h]
 refine (if_neg h2).trans ?_
 subst hr
 exact (if_neg hd).trans (if_pos hl)
theorem takeC_in {C : Cr} {x : Ms} {draw : Int} {r : Int × List UInt8 × List UInt8 × Int × Bool} (h : ¬ x.term < C.s.tm) (h2 : ¬ x.ix ≤ C.commit) (hr : putR C.key C.hv x.ix x.off x.data x.ok = r) (hd : ¬ r.2.2.2.2 = false) (hl : ¬ x.lt < 1) : C.take x draw = ((((C.led x draw).gets r).install x r.2.2.1).getD ((C.led x draw).gets r), [{ C.say 6 x.fr with ix := x.ix, rd := x.rd, ok := (((C.led x draw).gets r).install x r.2.2.1).isSome }]) := by
 unfold Cr.take
 rw [if_neg h]
 refine (if_neg h2).trans ?_
 subst hr
 refine (if_neg hd).trans ((if_neg hl).trans ?_)
 show (match ((C.led x draw).gets (putR C.key C.hv x.ix x.off x.data x.ok)).install x (putR C.key C.hv x.ix x.off x.data x.ok).2.2.1 with
  | none => _
  | some C3 => _) = _
 cases ((C.led x draw).gets (putR C.key C.hv x.ix x.off x.data x.ok)).install x (putR C.key C.hv x.ix x.off x.data x.ok).2.2.1 <;> rfl
theorem CTo.hNew {fb p : Nat} {w W : World} {V U V' U' : Nat → Prop} {C : Cr} {m : Mb} {A : Option Addr} {n c : Nat} {hv : List UInt8} {key : Int} (h : CTo fb w p V U C W V' U' m) (hr : Rd W (fun b => ¬ U' b) 1 A n (bs hv)) (hc : n ≤ c ∧ c ≤ maxLen) :
  CTo fb w p V U { C with key := key, hv := hv } ((W.setCell ⟨p, 17, none⟩ (.int .i64 key)).setCell ⟨p, 18, none⟩ (.slice A n c)) V' U' { m with H := A, nh := n, ch := c } := by
 have hx := h.cx
 have hg : W.grownBy ((W.setCell ⟨p, 17, none⟩ (.int .i64 key)).setCell ⟨p, 18, none⟩ (.slice A n c)) (some p) := gb_trans (gb_set _ p 17 _) (gb_set _ p 18 _)
 have hu : ∀ b, ¬ U' b → some b ≠ some p := fun b hb e => by injection e with e; exact hb (e ▸ hx.vu p hx.vp)
 have hbx : Bx ((W.setCell ⟨p, 17, none⟩ (.int .i64 key)).setCell ⟨p, 18, none⟩ (.slice A n c)) p (({ m with H := A, nh := n, ch := c } : Mb).cells { C with key := key, hv := hv }) := (hx.bx.set 17 _).set 18 _
 refine ⟨⟨hbx, hx.pm.keep (hg.block _ hx.pm.lt fun e => hx.qp (by injection e)), hx.vp, hx.vq, hx.qp, hx.vv, hx.vu, hx.vf, fun b hb => Nat.lt_of_lt_of_le (hx.ul b hb) hg.size, ?_, hx.at_.keep fun b hb hl => hg.block b hl (hu b hb), hx.st, hr.keep fun b hb hl => hg.block b hl (hu b hb), hc⟩, h.vs, h.us, h.un, ?_⟩
 ·refine ⟨hx.vt.1, ?_⟩
  rcases hx.vt.2 with h1 | ⟨g, cap, cur, h1, h2, h3, h4⟩
  ·exact .inl h1
  ·refine .inr ⟨g, cap, cur, h1, h2, ?_, h4⟩
   rw [hg.block g (Array.getElem?_eq_some_iff.1 h3).1 (fun e => (hx.vv g (by injection h1 with h1; rw [h1]; rfl)).2.1 (by injection e)), h3]
 ·exact h.kept.trans ((Kept.refl (· = p) W).grown hg fun b e => by injection e with e; exact e.symm) fun b hb e => (h.vs b (e ▸ hx.vp)).elim id fun h2 => by omega
set_option maxHeartbeats 25600000 in
theorem take_any {fb p : Nat} {w : World} {V U : Nat → Prop} {C : Cr} {m : Mb} {k : Nat} (x : Mr) (draw : Int) (h : CX fb w p V U C m) (ho : C.Ok k) (he : Env fb w) (hx : x.At w (fun b => ¬ U b)) (hmay : x.ms.may = true) :
  Calls Tryz.prog 70 #[.pointer (some ⟨p, 0, none⟩), x.val, .int .i64 draw] w (OutPost fb w p V U (C.take x.ms draw)) := by
 obtain ⟨W0, hW0⟩ : ∃ W0, W0 = w.alloc (.cells x.cells 78) := ⟨_, rfl⟩
 have b0 : Bx W0 w.heap.size x.cells := by subst hW0; exact Bx.new _ _ _ rfl
 have hbe : Below w.heap.size w W0 := by subst hW0; exact (Below.refl _ _).alloc (Nat.le_refl _) _
 have hz0 : W0.heap.size = w.heap.size + 1 := by subst hW0; simp
 obtain ⟨k1, k2, k3, k4, k5, k6, k7⟩ := h.s_eq
 have hsay := say_any 6 x.fr (h.below hbe)
 have hP : ∀ W, Below w.heap.size w W → W.cell? ⟨p, 0, none⟩ = some (.int .i64 C.s.tm) := fun W hb => by rw [← k1]; exact (h.below hb).bx.c 0
 obtain ⟨R, hR⟩ : ∃ R, C.take x.ms draw = R := ⟨_, rfl⟩
 rw [hR]
 have HR := Lib.hid hR
 have vv : x.val = .agg (mcell x).toArray := rfl
 have VV := Lib.hid vv
 have HW := Lib.hid hW0
 have H := Lib.hid (And.intro h (And.intro ho (And.intro he (And.intro hx (And.intro b0 (And.intro hbe (And.intro hz0 hmay)))))))
 have HP := Lib.hid hP
 have Hsay := Lib.hid hsay
 rw [vv]
 obtain ⟨c0, c1, c2, c3, c4, c5, c6, c7, c8, c9, c10, c11⟩ := Mr.c12 b0
 clear hW0 b0 hbe hz0 k1 k2 k3 k4 k5 k6 k7 hsay hP h ho he hx vv hmay hR
 unfold mcell
 go_enter Tryz.func70, Tryz.ntmps70
 go_upto_region 1 with (fail)
 have HW' := HW.out
 unfold Mr.cells at HW'
 rw [← HW']
 clear HW'
 go_wp2_with fail
 refine Hsay.out.mono ?_
 rintro e w1 ⟨rfl, hb1⟩
 unfold Mr.val Cr.sayM
 dsimp only
 go_upto_region 2 with (fail)
 obtain ⟨W2, hW2⟩ : ∃ W2, W2 = w1.alloc (.cells #[.int .i64 6, .int .i64 C.id, .int .i64 x.fr, .int .i64 C.s.tm, .int .i64 0, .int .i64 0, .int .i64 0, .int .i64 0, .bool false, .int .i64 0, .slice none 0 0, .slice none 0 0] 78) := ⟨_, rfl⟩
 have z2 : Bx W2 w1.heap.size #[.int .i64 6, .int .i64 C.id, .int .i64 x.fr, .int .i64 C.s.tm, .int .i64 0, .int .i64 0, .int .i64 0, .int .i64 0, .bool false, .int .i64 0, .slice none 0 0, .slice none 0 0] := by subst hW2; exact Bx.new w1 _ 78 rfl
 have b12 : Below w1.heap.size w1 W2 := by subst hW2; exact (Below.refl _ _).alloc (Nat.le_refl _) _
 have b02 : Below W0.heap.size W0 W2 := hb1.trans (b12.mono hb1.size)
 rw [← hW2]
 have hbw2 := H.out.2.2.2.2.2.1.trans (b02.mono H.out.2.2.2.2.2.1.size)
 have hx2 := H.out.2.2.2.2.1.below b02
 have K2 := Lib.hid (And.intro z2 (And.intro b02 (And.intro hb1.size (And.intro hbw2 hx2))))
 clear hW2 z2 b12 b02 hb1 c0 c1 c2 c3 c4 c5 c6 c7 c8 c9 c10 c11 hbw2 hx2
 have hzb : ¬ V w1.heap.size := fun hv => by have := H.out.1.ul _ (H.out.1.vu _ hv); have := K2.out.2.2.1; have := H.out.2.2.2.2.2.2.1; omega
 have hzw : w.heap.size < w1.heap.size := by have := K2.out.2.2.1; have := H.out.2.2.2.2.2.2.1; omega
 have hto2 : CTo fb w p V U C W2 V (fun b => U b ∨ b = w1.heap.size) m := by
  refine ⟨H.out.1.wide (fun b hb => .inl hb) (fun b hl hb => hb.elim id fun e => by omega) (fun b hl _ => K2.out.2.2.2.1.block b hl) K2.out.2.2.2.1.size (fun b hb => hb.elim (fun h9 => Nat.lt_of_lt_of_le (H.out.1.ul b h9) K2.out.2.2.2.1.size) fun e => e ▸ K2.out.1.lt), fun _ h => .inl h, fun _ h => .inl h, fun b hb => hb.elim .inl fun e => .inr (by omega), (Kept.of_new K2.out.2.2.2.1)⟩
 have ZB := Lib.hid (And.intro hzb (And.intro hzw hto2))
 clear hzb hzw hto2
 have d4 : W2.cell? ⟨w.heap.size, 4, none⟩ = some (.int .i64 x.ix) := K2.out.2.2.2.2.c 4
 have g4 : W2.cell? ⟨w1.heap.size, 4, none⟩ = some (.int .i64 0) := K2.out.1.c 4
 have f4 := K2.out.1.f 4
 go_upto_region 3 with (fail)
 obtain ⟨W3, hW3⟩ : ∃ W3, W3 = W2.setCell ⟨w1.heap.size, 4, none⟩ (.int .i64 x.ix) := ⟨_, rfl⟩
 have z3 : Bx W3 w1.heap.size #[.int .i64 6, .int .i64 C.id, .int .i64 x.fr, .int .i64 C.s.tm, .int .i64 x.ix, .int .i64 0, .int .i64 0, .int .i64 0, .bool false, .int .i64 0, .slice none 0 0, .slice none 0 0] := by subst hW3; exact K2.out.1.set 4 _
 have hto3 : CTo fb w p V U C W3 V (fun b => U b ∨ b = w1.heap.size) m := by subst hW3; exact ZB.out.2.2.side ⟨.inr rfl, ZB.out.1⟩ (Nat.le_of_lt ZB.out.2.1) _
 have hx3 : Bx W3 w.heap.size x.cells := by subst hW3; exact K2.out.2.2.2.2.keep (heap_set_ne (by have := ZB.out.2.1; omega))
 have hb3 : Below w.heap.size w W3 := by subst hW3; exact K2.out.2.2.2.1.setCell (p := ⟨w1.heap.size, 4, none⟩) (Nat.le_of_lt ZB.out.2.1) _
 rw [← hW3]
 have p0 := HP.out W3 hb3
 have d3 : W3.cell? ⟨w.heap.size, 3, none⟩ = some (.int .i64 x.term) := hx3.c 3
 have K3 := Lib.hid (And.intro z3 (And.intro hto3 (And.intro hx3 hb3)))
 clear hW3 z3 hto3 hx3 hb3 d4 g4 f4
 by_cases hlow : x.term < C.s.tm
 ·have hlI : decide (x.term < C.s.tm) = true := decide_eq_true hlow
  have E1 := Lib.hid (takeC_low (C := C) (x := x.ms) (draw := draw) hlow)
  clear hlow
  obtain ⟨g0, g1, g2, g3, g4, g5, g6, g7, g8, g9, g10, g11⟩ := Bx.c12 K3.out.1
  go_region
  all_goals
   go_wp2_with fail
   go_ret
   rw [← HR.out, E1.out]
   exact out_one (x := (⟨6, C.id, x.fr, C.s.tm, x.ix, 0, 0, 0, false, 0, none, 0, 0, [], none, 0, 0, []⟩ : Mr)) (by show w.heap.size ≤ W3.heap.size; exact K3.out.2.2.2.size) K3.out.2.1.drew (Mr.At.bare _ _ _ _ _ _ _ _ _ _ _ _) (Mr.At.bare _ _ _ _ _ _ _ _ _ _ _ _)
 ·have hlI : decide (x.term < C.s.tm) = false := decide_eq_false hlow
  have HL := Lib.hid (show ¬ x.ms.term < C.s.tm from hlow)
  clear hlow
  go_region
  all_goals
   clear p0 d3
   have g7 : W3.cell? ⟨w1.heap.size, 7, none⟩ = some (.int .i64 0) := K3.out.1.c 7
   have f7 := K3.out.1.f 7
   have d7 : W3.cell? ⟨w.heap.size, 7, none⟩ = some (.int .i64 x.rd) := K3.out.2.2.1.c 7
   go_upto_region 6 with (fail)
   obtain ⟨W4, hW4⟩ : ∃ W4, W4 = (W3.setCell ⟨w1.heap.size, 7, none⟩ (.int .i64 x.rd)).drew := ⟨_, rfl⟩
   have z4 : Bx W4 w1.heap.size #[.int .i64 6, .int .i64 C.id, .int .i64 x.fr, .int .i64 C.s.tm, .int .i64 x.ix, .int .i64 0, .int .i64 0, .int .i64 x.rd, .bool false, .int .i64 0, .slice none 0 0, .slice none 0 0] := by subst hW4; exact (K3.out.1.set 7 _).drew
   have hto4 : CTo fb w p V U C W4 V (fun b => U b ∨ b = w1.heap.size) m := by subst hW4; exact (K3.out.2.1.side ⟨.inr rfl, ZB.out.1⟩ (Nat.le_of_lt ZB.out.2.1) _).drew
   have hx4 : Bx W4 w.heap.size x.cells := by subst hW4; exact (K3.out.2.2.1.keep (heap_set_ne (by have := ZB.out.2.1; omega))).drew
   rw [← hW4]
   have hled := led_any x draw hto4.cx H.out.2.1
   rw [VV.out] at hled
   have Hled := Lib.hid hled
   have HR4 := Lib.hid (Mr.rng hx4)
   have K4 := Lib.hid (And.intro z4 (And.intro hto4 hx4))
   unfold mcell at HR4 Hled
   clear hW4 g7 f7 d7 hto4 z4 hx4 hled
   refine wp_region_lit ?_
   refine BigFrame.wpList_want (by rfl) (fun K hK => ?_)
   go_simp
   refine hK _ _ ?_
   clear hK K
   try simp only [Act.put, lyA, lyB, lyC]
   refine wpList_load_mid rfl _ _ rfl _ _ rfl _ _ HR4.out Tryz.underlying78 rfl (by kernel_rfl) ?_
   go_wp2_with fail
   refine Hled.out.mono ?_
   rintro e w5 ⟨rfl, t5⟩
   have hto5 := K4.out.2.1.trans t5
   have hvb : ∀ b, w.heap.size ≤ b → ¬ V b := fun b hb hv => by have := H.out.1.ul b (H.out.1.vu b hv); omega
   have z5 : Bx w5 w1.heap.size #[.int .i64 6, .int .i64 C.id, .int .i64 x.fr, .int .i64 C.s.tm, .int .i64 x.ix, .int .i64 0, .int .i64 0, .int .i64 x.rd, .bool false, .int .i64 0, .slice none 0 0, .slice none 0 0] := K4.out.1.keep (t5.kept.block _ K4.out.1.lt (hvb _ (Nat.le_of_lt ZB.out.2.1)))
   have hx5 : Bx w5 w.heap.size x.cells := K4.out.2.2.keep (t5.kept.block _ K4.out.2.2.lt (hvb _ (Nat.le_refl _)))
   have hxA5 : x.At w5 (fun b => ¬ (U b ∨ b = w1.heap.size)) := hto5.msg (fun b hb => H.out.1.vu b hb) H.out.2.2.2.1
   obtain ⟨C1, hC1⟩ : ∃ C1, C.led x.ms draw = C1 := ⟨_, rfl⟩
   have hC1s : C1.commit = C.commit ∧ C1.key = C.key ∧ C1.hv = C.hv := by rw [← hC1]; exact ⟨rfl, rfl, rfl⟩
   have hok1 : C1.Ok k := by rw [← hC1]; exact H.out.2.1.led H.out.2.2.2.2.2.2.2 draw
   rw [hC1] at hto5
   have p9 : w5.cell? ⟨p, 9, none⟩ = some (.int .i64 C1.commit) := hto5.cx.bx.c 9
   have d4 : w5.cell? ⟨w.heap.size, 4, none⟩ = some (.int .i64 x.ix) := hx5.c 4
   have K5 := Lib.hid (And.intro hto5 (And.intro z5 (And.intro hx5 (And.intro hxA5 (And.intro hC1 (And.intro hC1s hok1))))))
   have HV := Lib.hid hvb
   clear t5 hto5 z5 hx5 hxA5 hC1 hC1s hok1 hvb
   by_cases hold : x.ix ≤ C1.commit
   ·have hlI : decide (x.ix ≤ C1.commit) = true := decide_eq_true hold
    have E1 := Lib.hid (takeC_old (C := C) (x := x.ms) (draw := draw) (by have h9 := HL.out; omega) (by rw [← K5.out.2.2.2.2.2.1.1]; exact hold))
    have g8 : w5.cell? ⟨w1.heap.size, 8, none⟩ = some (.bool false) := K5.out.2.1.c 8
    have f8 := K5.out.2.1.f 8
    clear hold
    go_upto_region 7 with (fail)
    go_region
    all_goals
     go_upto_region 9 with (fail)
     obtain ⟨W6, hW6⟩ : ∃ W6, W6 = (w5.setCell ⟨w1.heap.size, 8, none⟩ (.bool true)).drew := ⟨_, rfl⟩
     have z6 : Bx W6 w1.heap.size #[.int .i64 6, .int .i64 C.id, .int .i64 x.fr, .int .i64 C.s.tm, .int .i64 x.ix, .int .i64 0, .int .i64 0, .int .i64 x.rd, .bool true, .int .i64 0, .slice none 0 0, .slice none 0 0] := by subst hW6; exact (K5.out.2.1.set 8 _).drew
     have hto6 : CTo fb w p V U C1 W6 V (fun b => U b ∨ b = w1.heap.size) m := by subst hW6; exact (K5.out.1.side ⟨.inr rfl, ZB.out.1⟩ (Nat.le_of_lt ZB.out.2.1) _).drew
     rw [← hW6]
     have T6 := Lib.hid hto6
     clear hW6 hto6 g8 f8 p9 d4
     obtain ⟨g0, g1, g2, g3, g4, g5, g6, g7, g8, g9, g10, g11⟩ := Bx.c12 z6
     clear z6
     go_wp2_with fail
     go_ret
     rw [← HR.out, E1.out, K5.out.2.2.2.2.1]
     exact out_one (x := (⟨6, C.id, x.fr, C.s.tm, x.ix, 0, 0, x.rd, true, 0, none, 0, 0, [], none, 0, 0, []⟩ : Mr)) T6.out.kept.size T6.out (Mr.At.bare _ _ _ _ _ _ _ _ _ _ _ _) (Mr.At.bare _ _ _ _ _ _ _ _ _ _ _ _)
   ·have hlI : decide (x.ix ≤ C1.commit) = false := decide_eq_false hold
    have HO := Lib.hid (show ¬ x.ms.ix ≤ C.commit by rw [← K5.out.2.2.2.2.2.1.1]; exact hold)
    clear hold
    go_upto_region 7 with (fail)
    go_region
    all_goals
     clear p9 d4
     go_upto_region 10 with (fail)
     obtain ⟨⟨rk, rh, rt, ra, rdn⟩, hput⟩ : ∃ q, putR C1.key C1.hv x.ix x.off x.data x.ok = q := ⟨_, rfl⟩
     have hcx5 := K5.out.1.cx
     have hpt := fun W (hb : Below w5.heap.size w5 W) => putw_any C1.key x.ix x.off m.H m.nh m.ch C1.hv x.D x.nd x.cd x.data x.ok W (hcx5.below hb).hv.any (K5.out.2.2.2.1.below hb).d.any (by have h1 := K5.out.2.2.2.2.2.2.hv; have h2 := hcx5.hv.blen; omega) (by have h1 := (Ms.may_in H.out.2.2.2.2.2.2.2).2.2.2.2.2.2.2.2.2.1; have h2 := H.out.2.2.2.1.d.blen; have h3 : x.data.length ≤ 4096 := h1; omega)
     rw [hput] at hpt
     have F6 : Hid (∀ W, Below w5.heap.size w5 W → (W.cell? ⟨p, 17, none⟩ = some (.int .i64 C1.key) ∧ W.cell? ⟨p, 18, none⟩ = some (.slice m.H m.nh m.ch)) ∧ W.cell? ⟨w.heap.size, 4, none⟩ = some (.int .i64 x.ix) ∧ W.cell? ⟨w.heap.size, 9, none⟩ = some (.int .i64 x.off) ∧ W.cell? ⟨w.heap.size, 10, none⟩ = some (.slice x.D x.nd x.cd) ∧ W.cell? ⟨w.heap.size, 8, none⟩ = some (.bool x.ok)) := Lib.hid fun W hb =>
      ⟨⟨(hcx5.below hb).bx.c 17, (hcx5.below hb).bx.c 18⟩, (K5.out.2.2.1.below hb).c 4, (K5.out.2.2.1.below hb).c 9, (K5.out.2.2.1.below hb).c 10, (K5.out.2.2.1.below hb).c 8⟩
     have Hpt := Lib.hid hpt
     have EP := Lib.hid hput
     clear hpt hput hcx5
     go_cut [8, 9, 10, 11] (fun s8 s9 s10 s11 W => ∃ (g : Nat) (A' : Option Addr) (n' c' : Nat) (B' : Option Addr) (m' d' : Nat), s8 = .pointer (some ⟨g, 0, none⟩) ∧ s9 = .slice B' m' d' ∧ s10 = .int .i64 ra ∧ s11 = .bool rdn ∧ Bx W g #[.int .i64 rk, .slice A' n' c'] ∧ w5.heap.size ≤ g ∧ Rd W (w5.heap.size ≤ ·) 1 A' n' (bs rh) ∧ (n' ≤ c' ∧ c' ≤ maxLen) ∧ Rd W (w5.heap.size ≤ ·) 1 B' m' (bs rt) ∧ (m' ≤ d' ∧ d' ≤ maxLen) ∧ Below w5.heap.size w5 W)
     case first =>
      refine wp_region_S 22 (fun W => Below w5.heap.size w5 W) ((.take 0 (.take 1 (.take 2 (.take 3 (.take 4 (.take 5 (.take 6 (.take 7 (.take 8 (.take 9 (.take 10 (.take 11 (.two 12 18 (.take 13 (.take 14 (.take 15 (.take 16 (.take 17 (.one 18 (.one 19 (.take 20 (.take 21 (.one 22 (.nil))))))))))) (.one 12 (.take 13 (.take 14 (.take 15 (.take 16 (.take 17 (.one 19 (.take 20 (.take 21 (.one 22 (.nil))))))))))))))))))))))))) (by kernel_rfl) (Below.refl _ _).drew.drew (fun _ _ _ _ h => h) (fun hS => ?_)
      repeat (first
       | (refine wpS_take (v := ?_) rfl rfl (by rfl) ?_ ?_; rotate_left; (intro W hW; have hf := F6.out W hW; go_split_ands; go_simp; try with_reducible rfl); try simp only [Act.put, lyA, lyB, lyC])
       | (refine wpS_skip rfl rfl (by rfl) ?_; try simp only [Act.put, lyA, lyB, lyC]))
      refine wpS_two rfl rfl (by rfl) (by rfl) (fun K hK => ?_) (fun K hK => ?_)
      ·go_simp
       go_at_call 128
       refine (Hpt.out _ hS).mono ?_
       intro e w7 h7
       obtain ⟨A', c', B', d', n', m', rfl, q1, q2, q3, q4, q5⟩ := h7
       have hS7 : Below w5.heap.size w5 w7 := hS.trans (q5.mono hS.size)
       have Q7 := Lib.hid (And.intro q1 (And.intro q2 (And.intro q3 (And.intro q4 hS.size))))
       refine hK (fun W => Below w5.heap.size w5 W) _ _ (fun _ h => h) hS7 ?_
       clear hK K q1 q2 q3 q4 q5 hS
       try simp only [Act.put, lyA, lyB, lyC]
       repeat (first
        | (refine wpS_take (v := ?_) rfl rfl (by rfl) ?_ ?_; rotate_left; (intro W hW; have hf := F6.out W hW; go_split_ands; go_simp; try with_reducible rfl); try simp only [Act.put, lyA, lyB, lyC])
        | (refine wpS_skip rfl rfl (by rfl) ?_; try simp only [Act.put, lyA, lyB, lyC]))
       refine wpS_one rfl (by rfl) (fun K hK => ?_)
       go_simp
       obtain ⟨W8, hW8⟩ : ∃ W8, W8 = w7.alloc (.cells #[.int .i64 0, .slice none 0 0] 107) := ⟨_, rfl⟩
       have b8 : Bx W8 w7.heap.size #[.int .i64 0, .slice none 0 0] := by subst hW8; exact Bx.new _ _ _ rfl
       have h78 : Below w7.heap.size w7 W8 := by subst hW8; exact (Below.refl _ _).alloc (Nat.le_refl _) _
       rw [← hW8]
       have hS8 : Below w5.heap.size w5 W8 := hS7.trans (h78.mono hS7.size)
       have Q8 := Lib.hid (And.intro b8 (And.intro h78 hS7.size))
       refine hK (fun W => Below w5.heap.size w5 W) _ _ (fun _ h => h) hS8 ?_
       clear hK K hW8 h78
       try simp only [Act.put, lyA, lyB, lyC]
       have i0 : W8.cell? ⟨w7.heap.size, 0, none⟩ = some (.int .i64 0) := b8.c 0
       have i1 : W8.cell? ⟨w7.heap.size, 1, none⟩ = some (.slice none 0 0) := b8.c 1
       have f0 := b8.f 0
       have f1 := b8.f 1
       clear b8
       refine wpS_one rfl (by rfl) (fun K hK => ?_)
       go_simp
       refine hK (fun W => Below w5.heap.size w5 W) _ _ (fun _ h => h) ((hS8.setCell (p := ⟨w7.heap.size, 0, none⟩) hS7.size _).setCell (p := ⟨w7.heap.size, 1, none⟩) hS7.size _) ?_
       clear hK K i0 i1 f0 f1
       try simp only [Act.put, lyA, lyB, lyC]
       repeat (first
        | (refine wpS_take (v := ?_) rfl rfl (by rfl) ?_ ?_; rotate_left; (intro W hW; have hf := F6.out W hW; go_split_ands; go_simp; try with_reducible rfl); try simp only [Act.put, lyA, lyB, lyC])
        | (refine wpS_skip rfl rfl (by rfl) ?_; try simp only [Act.put, lyA, lyB, lyC]))
       refine wpS_last rfl (by rfl) (fun K hK => ?_)
       go_simp
       refine hK _ _ ?_
       clear hK K
       try simp only [Act.put, lyA, lyB, lyC]
       refine wpS_nil ?_
       obtain ⟨W9, hW9⟩ : ∃ W9, W9 = (W8.setCell ⟨w7.heap.size, 0, none⟩ (.int .i64 rk)).setCell ⟨w7.heap.size, 1, none⟩ (.slice A' n' c') := ⟨_, rfl⟩
       have b9 : Bx W9 w7.heap.size #[.int .i64 rk, .slice A' n' c'] := by subst hW9; exact (Q8.out.1.set 0 _).set 1 _
       have h79 : Below w7.heap.size w7 W9 := by subst hW9; exact (Q8.out.2.1.setCell (p := ⟨w7.heap.size, 0, none⟩) (Nat.le_refl _) _).setCell (p := ⟨w7.heap.size, 1, none⟩) (Nat.le_refl _) _
       rw [← hW9]
       clear hW9 hS8
       go_wp2_with fail
       go_meet
       case rel => exact ⟨w7.heap.size, A', n', c', B', m', d', rfl, rfl, rfl, rfl, b9, hS7.size, (Q7.out.1.below h79).mono fun b hb => Nat.le_trans Q7.out.2.2.2.2 hb, Q7.out.2.1, (Q7.out.2.2.1.below h79).mono fun b hb => Nat.le_trans Q7.out.2.2.2.2 hb, Q7.out.2.2.2.1, hS7.trans (h79.mono hS7.size)⟩
      ·go_simp
       obtain ⟨W8, hW8⟩ : ∃ W8, W8 = (w5.alloc (.cells #[.int .i64 0, .slice none 0 0] 107)).drew.drew := ⟨_, rfl⟩
       have b8 : Bx W8 w5.heap.size #[.int .i64 0, .slice none 0 0] := by subst hW8; exact (Bx.new w5 _ 107 rfl).drew.drew
       have hS8 : Below w5.heap.size w5 W8 := by subst hW8; exact ((Below.refl _ _).alloc (Nat.le_refl _) _).drew.drew
       have hz8 : W8.heap.size = w5.heap.size + 1 := by subst hW8; show (w5.alloc _).heap.size = _; simp
       rw [← hW8]
       refine hK (fun W => Below w5.heap.size w5 W) _ _ (fun _ h => h) hS8 ?_
       clear hK K hW8 hS
       try simp only [Act.put, lyA, lyB, lyC]
       refine wpS_one rfl (by rfl) (fun K hK => ?_)
       go_simp
       go_at_call 128
       refine (Hpt.out _ hS8).mono ?_
       intro e w7 h7
       obtain ⟨A', c', B', d', n', m', rfl, q1, q2, q3, q4, q5⟩ := h7
       have hS7 : Below w5.heap.size w5 w7 := hS8.trans (q5.mono hS8.size)
       have b7 := b8.below q5
       have Q7 := Lib.hid (And.intro q1 (And.intro q2 (And.intro q3 (And.intro q4 (And.intro b7 hz8)))))
       refine hK (fun W => Below w5.heap.size w5 W) _ _ (fun _ h => h) hS7 ?_
       clear hK K q1 q2 q3 q4 q5 b8 hz8
       try simp only [Act.put, lyA, lyB, lyC]
       repeat (first
        | (refine wpS_take (v := ?_) rfl rfl (by rfl) ?_ ?_; rotate_left; (intro W hW; have hf := F6.out W hW; go_split_ands; go_simp; try with_reducible rfl); try simp only [Act.put, lyA, lyB, lyC])
        | (refine wpS_skip rfl rfl (by rfl) ?_; try simp only [Act.put, lyA, lyB, lyC]))
       have i0 : w7.cell? ⟨w5.heap.size, 0, none⟩ = some (.int .i64 0) := b7.c 0
       have i1 : w7.cell? ⟨w5.heap.size, 1, none⟩ = some (.slice none 0 0) := b7.c 1
       have f0 := b7.f 0
       have f1 := b7.f 1
       clear b7
       refine wpS_one rfl (by rfl) (fun K hK => ?_)
       go_simp
       refine hK (fun W => Below w5.heap.size w5 W) _ _ (fun _ h => h) ((hS7.setCell (p := ⟨w5.heap.size, 0, none⟩) (Nat.le_refl _) _).setCell (p := ⟨w5.heap.size, 1, none⟩) (Nat.le_refl _) _) ?_
       clear hK K i0 i1 f0 f1
       try simp only [Act.put, lyA, lyB, lyC]
       repeat (first
        | (refine wpS_take (v := ?_) rfl rfl (by rfl) ?_ ?_; rotate_left; (intro W hW; have hf := F6.out W hW; go_split_ands; go_simp; try with_reducible rfl); try simp only [Act.put, lyA, lyB, lyC])
        | (refine wpS_skip rfl rfl (by rfl) ?_; try simp only [Act.put, lyA, lyB, lyC]))
       refine wpS_last rfl (by rfl) (fun K hK => ?_)
       go_simp
       refine hK _ _ ?_
       clear hK K
       try simp only [Act.put, lyA, lyB, lyC]
       refine wpS_nil ?_
       obtain ⟨W9, hW9⟩ : ∃ W9, W9 = (w7.setCell ⟨w5.heap.size, 0, none⟩ (.int .i64 rk)).setCell ⟨w5.heap.size, 1, none⟩ (.slice A' n' c') := ⟨_, rfl⟩
       have b9 : Bx W9 w5.heap.size #[.int .i64 rk, .slice A' n' c'] := by subst hW9; exact (Q7.out.2.2.2.2.1.set 0 _).set 1 _
       have h79 : Below w5.heap.size w5 W9 := by subst hW9; exact (hS7.setCell (p := ⟨w5.heap.size, 0, none⟩) (Nat.le_refl _) _).setCell (p := ⟨w5.heap.size, 1, none⟩) (Nat.le_refl _) _
       have hk9 : ∀ b, b ≠ w5.heap.size → W9.heap[b]? = w7.heap[b]? := fun b hb => by subst hW9; exact (heap_set_ne hb).trans (heap_set_ne hb)
       rw [← hW9]
       clear hW9 hS7 hS8
       go_wp2_with fail
       go_meet
       case rel => exact ⟨w5.heap.size, A', n', c', B', m', d', rfl, rfl, rfl, rfl, b9, Nat.le_refl _, (Q7.out.1.keep fun b hb _ => hk9 b (by have h9 : W8.heap.size ≤ b := hb; have := Q7.out.2.2.2.2.2; omega)).mono fun b hb => (by have h9 : W8.heap.size ≤ b := hb; have := Q7.out.2.2.2.2.2; omega), Q7.out.2.1, (Q7.out.2.2.1.keep fun b hb _ => hk9 b (by have h9 : W8.heap.size ≤ b := hb; have := Q7.out.2.2.2.2.2; omega)).mono fun b hb => (by have h9 : W8.heap.size ≤ b := hb; have := Q7.out.2.2.2.2.2; omega), Q7.out.2.2.2.1, h79⟩
     case rest =>
      obtain ⟨g, A', n', c', B', m', d', rfl, rfl, rfl, rfl, q1, q2, q3, q4, q5, q6, q7⟩ := hcut
      obtain ⟨w6, hw6⟩ : ∃ w6, w6 = wc := ⟨_, rfl⟩
      rw [← hw6] at q1 q3 q5 q7 ⊢
      clear hw6
      have hto6 := K5.out.1.below q7
      have z6 := K5.out.2.1.below q7
      have hx6 := K5.out.2.2.1.below q7
      have hu6 : ∀ b, (U b ∨ b = w1.heap.size) → b < w5.heap.size := K5.out.1.cx.ul
      have i0 : w6.cell? ⟨g, 0, none⟩ = some (.int .i64 rk) := q1.c 0
      have i1 : w6.cell? ⟨g, 1, none⟩ = some (.slice A' n' c') := q1.c 1
      have p17 : w6.cell? ⟨p, 17, none⟩ = some (.int .i64 C1.key) := hto6.cx.bx.c 17
      have p18 : w6.cell? ⟨p, 18, none⟩ = some (.slice m.H m.nh m.ch) := hto6.cx.bx.c 18
      have f17 := hto6.cx.bx.f 17
      have f18 := hto6.cx.bx.f 18
      have C6 := Lib.hid (And.intro hto6 (And.intro z6 (And.intro hx6 (And.intro hu6 (And.intro q3 (And.intro q4 (And.intro q5 (And.intro q6 q7))))))))
      clear hto6 z6 hx6 hu6 q1 q2 q3 q4 q5 q6 q7 F6 Hpt
      go_upto_region 12 with (fail)
      obtain ⟨W7, hW7⟩ : ∃ W7, W7 = (w6.setCell ⟨p, 17, none⟩ (.int .i64 rk)).setCell ⟨p, 18, none⟩ (.slice A' n' c') := ⟨_, rfl⟩
      have hto7 : CTo fb w p V U (C1.gets (rk, rh, rt, ra, rdn)) W7 V (fun b => U b ∨ b = w1.heap.size) { m with H := A', nh := n', ch := c' } := by
       subst hW7
       exact C6.out.1.hNew (C6.out.2.2.2.2.1.mono fun b hb hu => by have h1 := C6.out.2.2.2.1 b hu; have h2 : w5.heap.size ≤ b := hb; omega) C6.out.2.2.2.2.2.1
      have gb7 : w6.grownBy W7 (some p) := by subst hW7; exact gb_trans (gb_set _ p 17 _) (gb_set _ p 18 _)
      have hpn : w1.heap.size ≠ p ∧ w.heap.size ≠ p := by have := H.out.1.bx.lt; have := ZB.out.2.1; omega
      have z7 : Bx W7 w1.heap.size #[.int .i64 6, .int .i64 C.id, .int .i64 x.fr, .int .i64 C.s.tm, .int .i64 x.ix, .int .i64 0, .int .i64 0, .int .i64 x.rd, .bool false, .int .i64 0, .slice none 0 0, .slice none 0 0] := C6.out.2.1.keep (gb7.block _ C6.out.2.1.lt fun e => hpn.1 (Option.some.inj e))
      have hx7 : Bx W7 w.heap.size x.cells := C6.out.2.2.1.keep (gb7.block _ C6.out.2.2.1.lt fun e => hpn.2 (Option.some.inj e))
      have rt7 : Rd W7 (w5.heap.size ≤ ·) 1 B' m' (bs rt) := C6.out.2.2.2.2.2.2.1.keep fun b hb hl => gb7.block _ hl fun e => by have h8 := Option.some.inj e; have h2 : w5.heap.size ≤ b := hb; have h3 := H.out.1.bx.lt; have h4 := K5.out.1.kept.size; omega
      have hput := EP.out
      rw [K5.out.2.2.2.2.2.1.2.1, K5.out.2.2.2.2.2.1.2.2] at hput
      have hok2 : (C1.gets (rk, rh, rt, ra, rdn)).Ok k := by
       have h1 := putR_ok (off := x.off) (piece := x.data) (last := x.ok) (h := C1.hv) K5.out.2.2.2.2.2.2.key (show I64 x.ix by have h9 := (Ms.may_in H.out.2.2.2.2.2.2.2).2.2.2.2.1; have h8 : 0 ≤ x.ix ∧ x.ix ≤ 1099511627776 := h9; unfold I64; omega) K5.out.2.2.2.2.2.2.hv
       rw [EP.out] at h1
       exact { K5.out.2.2.2.2.2.2 with key := h1.1, hv := h1.2 }
      rw [← hW7]
      have D7 := Lib.hid (And.intro hto7 (And.intro z7 (And.intro hx7 (And.intro rt7 (And.intro hok2 (show putR C.key C.hv x.ms.ix x.ms.off x.ms.data x.ms.ok = (rk, rh, rt, ra, rdn) from hput))))))
      clear hW7 hto7 gb7 hpn z7 hx7 rt7 hput hok2 i0 i1 p17 p18 f17 f18
      cases rdn with
      | false =>
       have g9 : W7.cell? ⟨w1.heap.size, 9, none⟩ = some (.int .i64 0) := D7.out.2.1.c 9
       have f9 := D7.out.2.1.f 9
       have E1 := Lib.hid (takeC_more (draw := draw) (by have h9 := HL.out; omega) (by have h9 := HO.out; omega) D7.out.2.2.2.2.2 rfl)
       go_upto_region 14 with (fail)
       obtain ⟨W8, hW8⟩ : ∃ W8, W8 = W7.setCell ⟨w1.heap.size, 9, none⟩ (.int .i64 ra) := ⟨_, rfl⟩
       have z8 : Bx W8 w1.heap.size #[.int .i64 6, .int .i64 C.id, .int .i64 x.fr, .int .i64 C.s.tm, .int .i64 x.ix, .int .i64 0, .int .i64 0, .int .i64 x.rd, .bool false, .int .i64 ra, .slice none 0 0, .slice none 0 0] := by subst hW8; exact D7.out.2.1.set 9 _
       have hto8 : CTo fb w p V U (C1.gets (rk, rh, rt, ra, false)) W8 V (fun b => U b ∨ b = w1.heap.size) { m with H := A', nh := n', ch := c' } := by subst hW8; exact D7.out.1.side ⟨.inr rfl, ZB.out.1⟩ (Nat.le_of_lt ZB.out.2.1) _
       rw [← hW8]
       have T8 := Lib.hid hto8
       clear hW8 hto8 g9 f9
       obtain ⟨g0, g1, g2, g3, g4, g5, g6, g7, g8, g9, g10, g11⟩ := Bx.c12 z8
       clear z8
       go_wp2_with fail
       go_ret
       rw [← HR.out, E1.out, K5.out.2.2.2.2.1]
       exact out_one (x := (⟨6, C.id, x.fr, C.s.tm, x.ix, 0, 0, x.rd, false, ra, none, 0, 0, [], none, 0, 0, []⟩ : Mr)) T8.out.kept.size T8.out (Mr.At.bare _ _ _ _ _ _ _ _ _ _ _ _) (Mr.At.bare _ _ _ _ _ _ _ _ _ _ _ _)
      | true =>
       have d5 : W7.cell? ⟨w.heap.size, 5, none⟩ = some (.int .i64 x.lt) := D7.out.2.2.1.c 5
       by_cases hlt : x.lt < 1
       ·have hlI : decide (x.lt < 1) = true := decide_eq_true hlt
        have E1 := Lib.hid (takeC_zero (draw := draw) (by have h9 := HL.out; omega) (by have h9 := HO.out; omega) D7.out.2.2.2.2.2 (fun h => Bool.noConfusion h) (show x.ms.lt < 1 from hlt))
        clear hlt
        go_wp2_with fail
        go_ret
        rw [← HR.out, E1.out, K5.out.2.2.2.2.1]
        exact out_none rfl D7.out.1
       ·have hlI : decide (x.lt < 1) = false := decide_eq_false hlt
        have E1 := Lib.hid (takeC_in (draw := draw) (by have h9 := HL.out; omega) (by have h9 := HO.out; omega) D7.out.2.2.2.2.2 (fun h => Bool.noConfusion h) (show ¬ x.ms.lt < 1 from hlt))
        clear hlt
        have hin := inst_any x B' m' d' rt D7.out.1.cx D7.out.2.2.2.2.1 (H.out.2.2.1.kept D7.out.1.kept H.out.1.vf) D7.out.2.2.2.1 C6.out.2.2.2.2.2.2.2.1
        rw [VV.out] at hin
        obtain ⟨Q, hQ⟩ : ∃ Q, (C1.gets (rk, rh, rt, ra, true)).install x.ms rt = Q := ⟨_, rfl⟩
        rw [hQ] at hin
        have EQ := Lib.hid hQ
        have Hin := Lib.hid hin
        have HR7 := Lib.hid (Mr.rng D7.out.2.2.1)
        unfold mcell at HR7 Hin
        clear hin hQ
        go_upto_region 17 with (fail)
        clear d5
        refine wp_region_lit ?_
        refine BigFrame.wpList_want (by rfl) (fun K hK => ?_)
        go_simp
        refine hK _ _ ?_
        clear hK K
        try simp only [Act.put, lyA, lyB, lyC]
        refine wpList_load_mid rfl _ _ rfl _ _ rfl _ _ HR7.out Tryz.underlying78 rfl (by kernel_rfl) ?_
        go_wp2_with fail
        refine Hin.out.mono ?_
        rintro e w8 ⟨V', U', m8, rfl, t8⟩
        have hto8 := D7.out.1.trans t8
        have hzu : U' w1.heap.size := t8.us _ (.inr rfl)
        have hzv : ¬ V' w1.heap.size := fun h9 => (t8.vs _ h9).elim ZB.out.1 fun h8 => by have := D7.out.2.1.lt; omega
        have z8 : Bx w8 w1.heap.size #[.int .i64 6, .int .i64 C.id, .int .i64 x.fr, .int .i64 C.s.tm, .int .i64 x.ix, .int .i64 0, .int .i64 0, .int .i64 x.rd, .bool false, .int .i64 0, .slice none 0 0, .slice none 0 0] := D7.out.2.1.keep (t8.kept.block _ D7.out.2.1.lt ZB.out.1)
        have g8 : w8.cell? ⟨w1.heap.size, 8, none⟩ = some (.bool false) := z8.c 8
        have f8 := z8.f 8
        have D8 := Lib.hid (And.intro hto8 (And.intro z8 (And.intro hzu hzv)))
        clear hto8 z8 hzu hzv t8
        go_upto_region 18 with (fail)
        obtain ⟨W9, hW9⟩ : ∃ W9, W9 = w8.setCell ⟨w1.heap.size, 8, none⟩ (.bool Q.isSome) := ⟨_, rfl⟩
        have z9 : Bx W9 w1.heap.size #[.int .i64 6, .int .i64 C.id, .int .i64 x.fr, .int .i64 C.s.tm, .int .i64 x.ix, .int .i64 0, .int .i64 0, .int .i64 x.rd, .bool Q.isSome, .int .i64 0, .slice none 0 0, .slice none 0 0] := by subst hW9; exact D8.out.2.1.set 8 _
        have hto9 : CTo fb w p V U (Q.getD (C1.gets (rk, rh, rt, ra, true))) W9 V' U' m8 := by subst hW9; exact D8.out.1.side D8.out.2.2 (Nat.le_of_lt ZB.out.2.1) _
        rw [← hW9]
        have T9 := Lib.hid hto9
        clear hW9 hto9 g8 f8
        obtain ⟨g0, g1, g2, g3, g4, g5, g6, g7, g8, g9, g10, g11⟩ := Bx.c12 z9
        clear z9
        go_wp2_with fail
        go_ret
        rw [← HR.out, E1.out, K5.out.2.2.2.2.1, EQ.out]
        exact out_one (x := (⟨6, C.id, x.fr, C.s.tm, x.ix, 0, 0, x.rd, Q.isSome, 0, none, 0, 0, [], none, 0, 0, []⟩ : Mr)) T9.out.kept.size T9.out (Mr.At.bare _ _ _ _ _ _ _ _ _ _ _ _) (Mr.At.bare _ _ _ _ _ _ _ _ _ _ _ _)
end Go.Proofs.YtmhaahcbmdhinaaGreatDoor
