/- NetRuns where there is a net: walked. -/
import Derived.Test.YtckpinnnmafdgaaDoorRunI
import Derived.Test.YtckpinnnmafdgaaDoorEnt
import Derived.Test.YtckpinnnmafdgaaDoorArith
import Derived.Deep.CutBlock
namespace Go.Proofs.YtckpinnnmafdgaaDoor
open Go.RowKit
set_option maxRecDepth 100000
set_option linter.unusedVariables false
set_option linter.unusedSimpArgs false
theorem runs_kind (z : Int) : ∃ v : Int, (IntKind.u64.wrap z).tmod 9 = v ∧ wrap64 v = v ∧ 0 ≤ v ∧ v < 9 := by
  obtain ⟨K, h1, -, h2, h3⟩ := uint_mod z 9 9 rfl (by omega) (by omega)
  rw [h2] at h3
  exact ⟨K, h2, h3, by omega, by omega⟩
/-- What holds at a round's head. -/
structure MH (w W : World) (n : Nn) (p : Ps) (rb : Nat) (r : Rn) (k : Nat) (lim : Int) : Prop where
  nv : NV W n p
  bx : Bx W rb (rnC r)
  rv : RV W (fun b => ¬ NB n b ∧ b ≠ rb) lim r p
  nrb : ¬ NB n rb
  lm : n.lim = lim
  gw : w.heap.size ≤ n.gm
  rw : w.heap.size ≤ rb
  be : Below w.heap.size w W
  cnt : n.cnt ≤ k
  ln : p.last ≤ k
  cn : r.cn ≤ k
section
variable {w W W' : World} {n : Nn} {p pn pr : Ps} {rb ab k : Nat} {q r : Rn} {lim : Int} {cs : Array Value}
theorem MH.mono {k' : Nat} (h : MH w W n p rb r k lim) (hk : k ≤ k') : MH w W n p rb r k' lim := by
  have h1 := h.cnt
  have h2 := h.ln
  have h3 := h.cn
  exact ⟨h.nv, h.bx, h.rv, h.nrb, h.lm, h.gw, h.rw, h.be, by omega, by omega, by omega⟩
theorem MH.below (h : MH w W n p rb r k lim) (hb : Below W.heap.size W W') : MH w W' n p rb r k lim :=
  ⟨h.nv.below hb, h.bx.below hb, h.rv.below hb, h.nrb, h.lm, h.gw, h.rw, h.be.trans (hb.mono h.be.size), h.cnt, h.ln, h.cn⟩
theorem MH.act (h : MH w W n p rb r k lim) (cs' : Array Value) (t : TypeId) : MG w (W.alloc (.cells cs' t)) n p rb r r p k k lim W.heap.size cs' := by
  have h1 := h.below ((Below.refl W.heap.size W).alloc (Nat.le_refl _) (.cells cs' t))
  exact ⟨h1.nv, h1.bx, h1.rv, h1.nrb, h1.lm, h1.gw, h1.rw, h1.be, h1.cnt, h1.ln, h1.ln, h1.cn, Bx.new _ _ _ rfl, fun hb => by have := (h.nv.nb hb).1; omega, by have := h.bx.lt; omega⟩
theorem MG.head (h : MG w W n p rb r r p k k lim ab cs) : MH w W n p rb r k lim := ⟨h.nv, h.bx, h.rv, h.nrb, h.lm, h.gw, h.rw, h.be, h.cnt, h.ln, h.cn⟩
end
theorem MH.start {w w1 : World} {lim : Int} (h : NS w1 (w.heap.size + 1) w.heap.size lim 0 0 (fun _ _ => 0) none 0 0 []) (hb : Below w.heap.size w w1) (h1 : 1 ≤ lim) (h2 : lim ≤ 4096) (t : TypeId) :
    MH w (w1.alloc (.cells #[.int .i64 lim, .int .i64 0, .slice none 0 0, .slice none 0 0] t)) ⟨w.heap.size + 1, w.heap.size, lim, 0, 0, fun _ _ => 0, none, 0, 0, []⟩ ⟨0, [], []⟩ w1.heap.size ⟨lim, 0, none, 0, 0, [], none, 0, 0, []⟩ 0 lim := by
  have hlt := h.bx.lt
  have hnv : NV w1 ⟨w.heap.size + 1, w.heap.size, lim, 0, 0, fun _ _ => 0, none, 0, 0, []⟩ ⟨0, [], []⟩ := by
    refine ⟨NI.made h, rfl, rfl, fun a b _ _ => ?_, fun x hx => ?_, ⟨h1, h2⟩, ?_, Int.le_refl _⟩
    · show (0 : Int) = if cutB [] a b then 1 else 0
      unfold cutB
      simp
    · cases hx
    · show ((0 : Nat) : Int) ≤ lim
      omega
  refine ⟨hnv.below ((Below.refl _ _).alloc (Nat.le_refl _) _), Bx.new _ _ _ rfl, ⟨⟨Rd.none_, (fun x hx => by cases hx), Rd.none_, ⟨Nat.le_refl _, by simp [maxLen]⟩, Nat.zero_le _, Nat.zero_le _⟩, rfl, rfl, rfl, rfl, fun _ => rfl⟩, fun hb => ?_, rfl, Nat.le_refl _, ?_, hb.alloc hb.size _, Nat.le_refl _, Int.le_refl _, Nat.le_refl _⟩
  · have := (hnv.nb hb).1
    omega
  · show w.heap.size ≤ w1.heap.size
    omega
set_option maxHeartbeats 6400000 in
theorem runs_good (lim : Int) (A : Option Addr) (n c : Nat) (L : List Er) (w : World) (hg : ErrT w) (hl1 : 1 ≤ lim) (hl2 : lim ≤ 4096) (hr : Rd w T 4 A n (flat ecell L)) (hd : Dat w L) (hw : ∀ y ∈ L, W64 y) (hn : n ≤ 9223372036854775807) :
    Calls Tryd.prog 3 #[.int .i64 lim, .slice A n c] w (YesPost w) := by
  have Hg := Lib.hid hg
  have Hr := Lib.hid hr
  have Hd := Lib.hid hd
  have Hw := Lib.hid hw
  have hnew := new_any lim w hl1 hl2
  have Hnew := Lib.hid hnew
  have hd1 : decide (lim < 1) = false := by simp; omega
  have hd2 : decide (4096 < lim) = false := by simp; omega
  clear hg hr hd hw hnew
  go_enter Tryd.func3, Tryd.ntmps3
  go_wp2_with fail
  refine Hnew.out.mono ?_
  rintro e w1 ⟨rfl, hns, hb1⟩
  have hmg := MH.start hns hb1 hl1 hl2 46
  have Hmg := Lib.hid hmg
  clear hmg hns hb1
  go_wp2_with fail
  obtain ⟨rb, hrb⟩ : ∃ rb, rb = w1.heap.size := ⟨_, rfl⟩
  obtain ⟨g, hgg⟩ : ∃ g, g = w.heap.size + 1 := ⟨_, rfl⟩
  rw [← hrb, ← hgg] at Hmg ⊢
  clear hrb hgg
  go_loopg [17] 60 (fun mu s17 wr => ∃ i n1 p r, mu = 60 - i ∧ i ≤ 60 ∧ s17 = .int .i64 (i : Nat) ∧ n1.g = g ∧ MH w wr n1 p rb r i lim ∧ Pos p)
  case atStart => exact ⟨0, _, _, _, by omega, by omega, rfl, rfl, Hmg.out, by decide, by simp⟩
  case round =>
    obtain ⟨i, n1, p, r, hmu, hi, rfl, hng, hmh, hpos⟩ := hrel
    have Hpos := Lib.hid hpos
    have Hmu := Lib.hid hmu
    have Hmh := Lib.hid hmh
    have Hng := Lib.hid hng
    clear hmu hmh hng Hmg hpos
    obtain ⟨wq, rfl⟩ : ∃ wq, wq = wr := ⟨_, rfl⟩
    by_cases hin : i < n
    · have hinI : (i : Int) < n := by omega
      by_cases hi60 : i < 60
      · have hi60I : (i : Int) < 60 := by omega
        have h0i : (0 : Int) ≤ i := by omega
        obtain ⟨bb, o, x, rfl, _, hbl, hx, c0, c1, c2, c3⟩ := er_cells (Hr.out.below Hmh.out.be) hin
        have hdx := Hd.out x (List.mem_of_getElem? hx)
        have hwx := Hw.out x (List.mem_of_getElem? hx)
        have Hdx := Lib.hid hdx
        have Hwx := Lib.hid hwx
        obtain ⟨v, hv1, hv2, hv3, hv4⟩ := runs_kind x.a
        have hma := fun t => Hmh.out.act #[.int .i64 x.a, .int .i64 x.b, .int .i64 x.c, .slice x.A x.n x.m] t
        have Hma := Lib.hid hma
        clear hx hdx hwx hma
        by_cases h5 : (x.n : Int) ≤ 5000
        · have h5d : decide (5000 < (x.n : Int)) = false := decide_eq_false (by omega)
          go_upto_block 2 with (fail)
          go_cut [19, 20, 21, 22, 23, 24, 25, 26, 27] (fun s19 s20 s21 s22 s23 s24 s25 s26 s27 W => ∃ n2 p2 r2 y k, s19 = .int .i64 y ∧ s20 = .int .i64 y ∧ s21 = errV k ∧ s22 = .int .i64 k ∧ n2.g = g ∧ MG w W n2 p2 rb r2 r2 p2 (i + 1) (i + 1) lim wq.heap.size #[.int .i64 x.a, .int .i64 x.b, .int .i64 x.c, .slice x.A x.n x.m] ∧ Pos p2)
          case first =>
            have hma := Hma.out 48
            have hd0 : Rd (wq.alloc (.cells #[.int .i64 x.a, .int .i64 x.b, .int .i64 x.c, .slice x.A x.n x.m] 48)) T 1 x.A x.n (bs x.d) := (Hdx.out.1.below hma.be).any
            have hi1 : i < 60 := hi60
            have hlast : n1.last ≤ 1000 := by have := hma.nv.la; have := hma.ln; omega
            have hlast0 : 0 ≤ r.last := by have := hma.rv.la; have := Hpos.out.1; omega
            have hlastR : r.last ≤ 1000 := by have := hma.rv.la; have := hma.lr; omega
            have hcnt : n1.cnt < 100000 := by have := hma.cnt; omega
            have hcnR : r.cn ≤ 4000 := by have := hma.cn; omega
            have hxn : x.n ≤ 5000 := by omega
            obtain ⟨wa, hwa⟩ : ∃ wa, wa = wq.alloc (.cells #[.int .i64 x.a, .int .i64 x.b, .int .i64 x.c, .slice x.A x.n x.m] 48) := ⟨_, rfl⟩
            rw [← hwa] at hma hd0
            obtain ⟨a0, a1, a2, a3, -⟩ := hma.ax.c4
            have Hhma := Lib.hid hma
            have Hd0 := Lib.hid hd0
            have Hwa := Lib.hid hwa
            clear hma hd0 hwa c0 c1 c2 c3
            have hcase : v = 3 ∨ v = 4 ∨ v = 5 ∨ v = 6 ∨ v = 7 ∨ v = 8 ∨ (v ≠ 3 ∧ v ≠ 4 ∧ v ≠ 5 ∧ v ≠ 6 ∧ v ≠ 7 ∧ v ≠ 8) := by omega
            clear hv3 hv4
            have hlmn := Hhma.out.lm
            have hlimR : lim ≤ 4096 := hl2
            rcases hcase with rfl | rfl | rfl | rfl | rfl | rfl | ⟨z3, z4, z5, z6, z7, z8⟩
            · as_aux_lemma =>
                have hnc := nTake n1 p x.b wa Hhma.out.nv
                unfold nTakeP at hnc
                rw [Hng.out] at hnc
                have hlp := pTake_last p x.b
                have hpp := pTake_pos p x.b Hpos.out
                have hdc := fun w2 n2 (hm2 : MG w w2 n2 (pTake p x.b).1 rb r r p (i + 1) i lim wq.heap.size #[.int .i64 x.a, .int .i64 x.b, .int .i64 x.c, .slice x.A x.n x.m]) => rTake lim r p x.b w2 hm2.rv
                unfold rTakeP at hdc
                obtain ⟨PP, hPP⟩ : ∃ PP, PP = pTake p x.b := ⟨_, rfl⟩
                rw [← hPP] at hnc hlp hpp hdc
                obtain ⟨p2, it, k⟩ := PP
                dsimp only at hnc hlp hpp hdc
                have Hnc := Lib.hid hnc
                have Hdc := Lib.hid hdc
                clear hnc hdc hPP
                go_wp2_with fail
                rw [← Hwa.out]
                refine Hnc.out.mono ?_
                rintro e w2 ⟨ya, rfl, hya, hyr, haft⟩
                unfold icA
                obtain ⟨n2, hg2, hm2⟩ := Hhma.out.net haft hlp
                have hrb2 := hm2.bx.lt
                have hm2a := hm2.alloc (.cells #[.int .i64 ya.id, .int .i64 ya.fr, .int .i64 ya.to, .slice ya.A ya.n ya.c] 32)
                have hpx := Bx.new w2 #[.int .i64 ya.id, .int .i64 ya.fr, .int .i64 ya.to, .slice ya.A ya.n ya.c] 32 rfl
                have hyr2 := hyr.alloc (.cells #[.int .i64 ya.id, .int .i64 ya.fr, .int .i64 ya.to, .slice ya.A ya.n ya.c] 32)
                obtain ⟨wb, hwb⟩ : ∃ wb, wb = w2.alloc (.cells #[.int .i64 ya.id, .int .i64 ya.fr, .int .i64 ya.to, .slice ya.A ya.n ya.c] 32) := ⟨_, rfl⟩
                rw [← hwb] at hm2a hpx hyr2
                obtain ⟨k0, k1, k2, k3, -⟩ := hm2a.bx.c4
                clear a0 a1 a2 a3
                obtain ⟨a0, a1, a2, a3, -⟩ := hm2a.ax.c4
                have hdc2 := Hdc.out wb n2 hm2a
                unfold rnA icA at hdc2
                have Hdc2 := Lib.hid hdc2
                have Hm2 := Lib.hid hm2a
                have Hpx := Lib.hid hpx
                have Hyr := Lib.hid hyr2
                have Hwb := Lib.hid hwb
                have Hya := Lib.hid hya
                clear haft hm2 hm2a hdc2 hpx hyr hyr2 hwb hya
                go_upto_region 24 with (fail)
                rw [← Hwb.out]
                go_wp2_with fail
                refine Hdc2.out.mono ?_
                rintro e w3 ⟨r', yb, rfl, hyb, hybr, haft⟩
                have hb3 := haft.2.1
                have hm3 := Hm2.out.doc haft hlp
                obtain ⟨rlim', rlast', rLA', rln', rlc', rl', rCA', rcn', rcc', rcuts'⟩ := r'
                dsimp only
                have hm4 := (hm3.alloc (.cells #[.int .i64 rlim', .int .i64 rlast', .slice rLA' rln' rlc', .slice rCA' rcn' rcc'] 46)).alloc (.cells #[.int .i64 yb.id, .int .i64 yb.fr, .int .i64 yb.to, .slice yb.A yb.n yb.c] 50)
                have hsb := (Bx.new w3 #[.int .i64 rlim', .int .i64 rlast', .slice rLA' rln' rlc', .slice rCA' rcn' rcc'] 46 rfl).alloc (.cells #[.int .i64 yb.id, .int .i64 yb.fr, .int .i64 yb.to, .slice yb.A yb.n yb.c] 50)
                have hqb := Bx.new (w3.alloc (.cells #[.int .i64 rlim', .int .i64 rlast', .slice rLA' rln' rlc', .slice rCA' rcn' rcc'] 46)) #[.int .i64 yb.id, .int .i64 yb.fr, .int .i64 yb.to, .slice yb.A yb.n yb.c] 50 rfl
                have hpx3 := ((Hpx.out.below hb3).alloc (.cells #[.int .i64 rlim', .int .i64 rlast', .slice rLA' rln' rlc', .slice rCA' rcn' rcc'] 46)).alloc (.cells #[.int .i64 yb.id, .int .i64 yb.fr, .int .i64 yb.to, .slice yb.A yb.n yb.c] 50)
                have hya3 := ((Hyr.out.below hb3).alloc (.cells #[.int .i64 rlim', .int .i64 rlast', .slice rLA' rln' rlc', .slice rCA' rcn' rcc'] 46)).alloc (.cells #[.int .i64 yb.id, .int .i64 yb.fr, .int .i64 yb.to, .slice yb.A yb.n yb.c] 50)
                have hyb3 := (hybr.alloc (.cells #[.int .i64 rlim', .int .i64 rlast', .slice rLA' rln' rlc', .slice rCA' rcn' rcc'] 46)).alloc (.cells #[.int .i64 yb.id, .int .i64 yb.fr, .int .i64 yb.to, .slice yb.A yb.n yb.c] 50)
                obtain ⟨wc, hwc⟩ : ∃ wc, wc = (w3.alloc (.cells #[.int .i64 rlim', .int .i64 rlast', .slice rLA' rln' rlc', .slice rCA' rcn' rcc'] 46)).alloc (.cells #[.int .i64 yb.id, .int .i64 yb.fr, .int .i64 yb.to, .slice yb.A yb.n yb.c] 50) := ⟨_, rfl⟩
                rw [← hwc] at hm4 hsb hqb hpx3 hya3 hyb3
                obtain ⟨e1, e2, e3, e4⟩ := pl_inj (Hya.out.trans hyb.symm)
                have hz3 : (w3.alloc (.cells #[.int .i64 rlim', .int .i64 rlast', .slice rLA' rln' rlc', .slice rCA' rcn' rcc'] 46)).heap.size = w3.heap.size + 1 := by simp
                rw [hz3] at hqb
                have hnb3 : w3.heap.size ≠ rb := by have := hm3.bx.lt; omega
                have hnb4 : w3.heap.size + 1 ≠ rb := by have := hm3.bx.lt; omega
                have hnb5 : w2.heap.size ≠ rb := by omega
                have Hm4 := Lib.hid hm4
                have Hq := Lib.hid hqb
                have Hp3 := Lib.hid hpx3
                have Hya3 := Lib.hid hya3
                have Hyb3 := Lib.hid hyb3
                have Hwc := Lib.hid hwc
                have He := Lib.hid (And.intro e1 (And.intro e2 (And.intro e3 e4)))
                obtain ⟨s0, s1, s2, s3, -⟩ := hsb.c4
                clear a0 a1 a2 a3 k0 k1 k2 k3
                obtain ⟨k0, k1, k2, k3, g0, g1, g2, g3⟩ := hm4.bx.c4
                clear hm3 hm4 hqb hpx3 hya3 hyb3 hwc e1 e2 e3 e4 hb3 haft hyb hybr hsb hz3
                go_upto_region 25 with (fail)
                rw [← Hwc.out]
                go_upto_region 26 with (fail)
                have hm5 := Hm4.out.store
                dsimp only at hm5
                have hfour : ∀ b, b ≠ rb → ((((wc.setCell ⟨rb, 0, none⟩ (.int .i64 rlim')).setCell ⟨rb, 1, none⟩ (.int .i64 rlast')).setCell ⟨rb, 2, none⟩ (.slice rLA' rln' rlc')).setCell ⟨rb, 3, none⟩ (.slice rCA' rcn' rcc')).heap[b]? = wc.heap[b]? := fun b hb => four_heap hb _ _ _ _
                obtain ⟨wd, hwd⟩ : ∃ wd, wd = ((((wc.setCell ⟨rb, 0, none⟩ (.int .i64 rlim')).setCell ⟨rb, 1, none⟩ (.int .i64 rlast')).setCell ⟨rb, 2, none⟩ (.slice rLA' rln' rlc')).setCell ⟨rb, 3, none⟩ (.slice rCA' rcn' rcc')) := ⟨_, rfl⟩
                rw [← hwd] at hm5 hfour ⊢
                obtain ⟨x0, x1, x2, x3, -⟩ := (Hp3.out.keep (hfour _ hnb5)).c4
                obtain ⟨y0, y1, y2, y3, -⟩ := (Hq.out.keep (hfour _ hnb4)).c4
                have hra := Hya3.out.keep (w' := wd) (fun b hb _ => hfour b (fun e => Hhma.out.nrb (e ▸ hb)))
                have hrb := Hyb3.out.keep (w' := wd) (fun b hb _ => hfour b hb.2)
                have hcx := conv_bytes (P := Tryd.prog) (c := ya.c) 30 9 5 Tryd.underlying30 Tryd.underlying5 Tryd.underlying9 hra
                have hcy := conv_bytes (P := Tryd.prog) (c := yb.c) 30 9 5 Tryd.underlying30 Tryd.underlying5 Tryd.underlying9 hrb
                obtain ⟨e1, e2, e3, e4⟩ := He.out
                rw [← e1] at y0
                rw [← e2] at y1
                rw [← e3] at y2
                rw [← e4] at hcy
                have Hm5 := Lib.hid hm5
                clear hm5 hfour hwd hra hrb e1 e2 e3 e4 s0 s1 s2 s3 k0 k1 k2 k3 g0 g1 g2 g3
                go_wp2_with fail
                go_meet
                case rel => exact ⟨n2, p2, ⟨rlim', rlast', rLA', rln', rlc', rl', rCA', rcn', rcc', rcuts'⟩, _, _, rfl, rfl, rfl, rfl, by rw [hg2]; exact Hng.out, Hm5.out, hpp⟩
            · as_aux_lemma =>
                have hnc := nTake n1 p x.b wa Hhma.out.nv
                unfold nTakeP at hnc
                rw [Hng.out] at hnc
                have hlp := pTake_last p x.b
                have hpp := pTake_pos p x.b Hpos.out
                have hdc := fun w2 n2 (hm2 : MG w w2 n2 (pTake p x.b).1 rb r r p (i + 1) i lim wq.heap.size #[.int .i64 x.a, .int .i64 x.b, .int .i64 x.c, .slice x.A x.n x.m]) => rTake lim r p x.b w2 hm2.rv
                unfold rTakeP at hdc
                obtain ⟨PP, hPP⟩ : ∃ PP, PP = pTake p x.b := ⟨_, rfl⟩
                rw [← hPP] at hnc hlp hpp hdc
                obtain ⟨p2, it, k⟩ := PP
                dsimp only at hnc hlp hpp hdc
                have Hnc := Lib.hid hnc
                have Hdc := Lib.hid hdc
                clear hnc hdc hPP
                go_wp2_with fail
                rw [← Hwa.out]
                refine Hnc.out.mono ?_
                rintro e w2 ⟨ya, rfl, hya, hyr, haft⟩
                unfold icA
                obtain ⟨n2, hg2, hm2⟩ := Hhma.out.net haft hlp
                have hrb2 := hm2.bx.lt
                have hm2a := hm2.alloc (.cells #[.int .i64 ya.id, .int .i64 ya.fr, .int .i64 ya.to, .slice ya.A ya.n ya.c] 32)
                have hpx := Bx.new w2 #[.int .i64 ya.id, .int .i64 ya.fr, .int .i64 ya.to, .slice ya.A ya.n ya.c] 32 rfl
                have hyr2 := hyr.alloc (.cells #[.int .i64 ya.id, .int .i64 ya.fr, .int .i64 ya.to, .slice ya.A ya.n ya.c] 32)
                obtain ⟨wb, hwb⟩ : ∃ wb, wb = w2.alloc (.cells #[.int .i64 ya.id, .int .i64 ya.fr, .int .i64 ya.to, .slice ya.A ya.n ya.c] 32) := ⟨_, rfl⟩
                rw [← hwb] at hm2a hpx hyr2
                obtain ⟨k0, k1, k2, k3, -⟩ := hm2a.bx.c4
                clear a0 a1 a2 a3
                obtain ⟨a0, a1, a2, a3, -⟩ := hm2a.ax.c4
                have hdc2 := Hdc.out wb n2 hm2a
                unfold rnA icA at hdc2
                have Hdc2 := Lib.hid hdc2
                have Hm2 := Lib.hid hm2a
                have Hpx := Lib.hid hpx
                have Hyr := Lib.hid hyr2
                have Hwb := Lib.hid hwb
                have Hya := Lib.hid hya
                clear haft hm2 hm2a hdc2 hpx hyr hyr2 hwb hya
                go_upto_region 24 with (fail)
                rw [← Hwb.out]
                go_wp2_with fail
                refine Hdc2.out.mono ?_
                rintro e w3 ⟨r', yb, rfl, hyb, hybr, haft⟩
                have hb3 := haft.2.1
                have hm3 := Hm2.out.doc haft hlp
                obtain ⟨rlim', rlast', rLA', rln', rlc', rl', rCA', rcn', rcc', rcuts'⟩ := r'
                dsimp only
                have hm4 := (hm3.alloc (.cells #[.int .i64 rlim', .int .i64 rlast', .slice rLA' rln' rlc', .slice rCA' rcn' rcc'] 46)).alloc (.cells #[.int .i64 yb.id, .int .i64 yb.fr, .int .i64 yb.to, .slice yb.A yb.n yb.c] 50)
                have hsb := (Bx.new w3 #[.int .i64 rlim', .int .i64 rlast', .slice rLA' rln' rlc', .slice rCA' rcn' rcc'] 46 rfl).alloc (.cells #[.int .i64 yb.id, .int .i64 yb.fr, .int .i64 yb.to, .slice yb.A yb.n yb.c] 50)
                have hqb := Bx.new (w3.alloc (.cells #[.int .i64 rlim', .int .i64 rlast', .slice rLA' rln' rlc', .slice rCA' rcn' rcc'] 46)) #[.int .i64 yb.id, .int .i64 yb.fr, .int .i64 yb.to, .slice yb.A yb.n yb.c] 50 rfl
                have hpx3 := ((Hpx.out.below hb3).alloc (.cells #[.int .i64 rlim', .int .i64 rlast', .slice rLA' rln' rlc', .slice rCA' rcn' rcc'] 46)).alloc (.cells #[.int .i64 yb.id, .int .i64 yb.fr, .int .i64 yb.to, .slice yb.A yb.n yb.c] 50)
                have hya3 := ((Hyr.out.below hb3).alloc (.cells #[.int .i64 rlim', .int .i64 rlast', .slice rLA' rln' rlc', .slice rCA' rcn' rcc'] 46)).alloc (.cells #[.int .i64 yb.id, .int .i64 yb.fr, .int .i64 yb.to, .slice yb.A yb.n yb.c] 50)
                have hyb3 := (hybr.alloc (.cells #[.int .i64 rlim', .int .i64 rlast', .slice rLA' rln' rlc', .slice rCA' rcn' rcc'] 46)).alloc (.cells #[.int .i64 yb.id, .int .i64 yb.fr, .int .i64 yb.to, .slice yb.A yb.n yb.c] 50)
                obtain ⟨wc, hwc⟩ : ∃ wc, wc = (w3.alloc (.cells #[.int .i64 rlim', .int .i64 rlast', .slice rLA' rln' rlc', .slice rCA' rcn' rcc'] 46)).alloc (.cells #[.int .i64 yb.id, .int .i64 yb.fr, .int .i64 yb.to, .slice yb.A yb.n yb.c] 50) := ⟨_, rfl⟩
                rw [← hwc] at hm4 hsb hqb hpx3 hya3 hyb3
                obtain ⟨e1, e2, e3, e4⟩ := pl_inj (Hya.out.trans hyb.symm)
                have hz3 : (w3.alloc (.cells #[.int .i64 rlim', .int .i64 rlast', .slice rLA' rln' rlc', .slice rCA' rcn' rcc'] 46)).heap.size = w3.heap.size + 1 := by simp
                rw [hz3] at hqb
                have hnb3 : w3.heap.size ≠ rb := by have := hm3.bx.lt; omega
                have hnb4 : w3.heap.size + 1 ≠ rb := by have := hm3.bx.lt; omega
                have hnb5 : w2.heap.size ≠ rb := by omega
                have Hm4 := Lib.hid hm4
                have Hq := Lib.hid hqb
                have Hp3 := Lib.hid hpx3
                have Hya3 := Lib.hid hya3
                have Hyb3 := Lib.hid hyb3
                have Hwc := Lib.hid hwc
                have He := Lib.hid (And.intro e1 (And.intro e2 (And.intro e3 e4)))
                obtain ⟨s0, s1, s2, s3, -⟩ := hsb.c4
                clear a0 a1 a2 a3 k0 k1 k2 k3
                obtain ⟨k0, k1, k2, k3, g0, g1, g2, g3⟩ := hm4.bx.c4
                clear hm3 hm4 hqb hpx3 hya3 hyb3 hwc e1 e2 e3 e4 hb3 haft hyb hybr hsb hz3
                go_upto_region 25 with (fail)
                rw [← Hwc.out]
                go_upto_region 26 with (fail)
                have hm5 := Hm4.out.store
                dsimp only at hm5
                have hfour : ∀ b, b ≠ rb → ((((wc.setCell ⟨rb, 0, none⟩ (.int .i64 rlim')).setCell ⟨rb, 1, none⟩ (.int .i64 rlast')).setCell ⟨rb, 2, none⟩ (.slice rLA' rln' rlc')).setCell ⟨rb, 3, none⟩ (.slice rCA' rcn' rcc')).heap[b]? = wc.heap[b]? := fun b hb => four_heap hb _ _ _ _
                obtain ⟨wd, hwd⟩ : ∃ wd, wd = ((((wc.setCell ⟨rb, 0, none⟩ (.int .i64 rlim')).setCell ⟨rb, 1, none⟩ (.int .i64 rlast')).setCell ⟨rb, 2, none⟩ (.slice rLA' rln' rlc')).setCell ⟨rb, 3, none⟩ (.slice rCA' rcn' rcc')) := ⟨_, rfl⟩
                rw [← hwd] at hm5 hfour ⊢
                obtain ⟨x0, x1, x2, x3, -⟩ := (Hp3.out.keep (hfour _ hnb5)).c4
                obtain ⟨y0, y1, y2, y3, -⟩ := (Hq.out.keep (hfour _ hnb4)).c4
                have hra := Hya3.out.keep (w' := wd) (fun b hb _ => hfour b (fun e => Hhma.out.nrb (e ▸ hb)))
                have hrb := Hyb3.out.keep (w' := wd) (fun b hb _ => hfour b hb.2)
                have hcx := conv_bytes (P := Tryd.prog) (c := ya.c) 30 9 5 Tryd.underlying30 Tryd.underlying5 Tryd.underlying9 hra
                have hcy := conv_bytes (P := Tryd.prog) (c := yb.c) 30 9 5 Tryd.underlying30 Tryd.underlying5 Tryd.underlying9 hrb
                obtain ⟨e1, e2, e3, e4⟩ := He.out
                rw [← e1] at y0
                rw [← e2] at y1
                rw [← e3] at y2
                rw [← e4] at hcy
                have Hm5 := Lib.hid hm5
                clear hm5 hfour hwd hra hrb e1 e2 e3 e4 s0 s1 s2 s3 k0 k1 k2 k3 g0 g1 g2 g3
                go_wp2_with fail
                go_meet
                case rel => exact ⟨n2, p2, ⟨rlim', rlast', rLA', rln', rlc', rl', rCA', rcn', rcc', rcuts'⟩, _, _, rfl, rfl, rfl, rfl, by rw [hg2]; exact Hng.out, Hm5.out, hpp⟩
            · as_aux_lemma =>
                have hnc := nCopy n1 p x.b wa Hhma.out.nv hlast
                unfold nCopyP at hnc
                rw [hlmn] at hnc
                rw [Hng.out] at hnc
                have hlp := pCopy_last lim p x.b
                have hpp := pCopy_pos lim p x.b Hpos.out
                have hdc := fun w2 n2 (hm2 : MG w w2 n2 (pCopy lim p x.b).1 rb r r p (i + 1) i lim wq.heap.size #[.int .i64 x.a, .int .i64 x.b, .int .i64 x.c, .slice x.A x.n x.m]) => rCopy lim r p x.b w2 hm2.rv hlimR hlast0 hlastR
                unfold rCopyP at hdc
                obtain ⟨PP, hPP⟩ : ∃ PP, PP = pCopy lim p x.b := ⟨_, rfl⟩
                rw [← hPP] at hnc hlp hpp hdc
                obtain ⟨p2, y⟩ := PP
                obtain ⟨y, k⟩ := y
                dsimp only at hnc hlp hpp hdc
                have Hnc := Lib.hid hnc
                have Hdc := Lib.hid hdc
                clear hnc hdc hPP
                go_wp2_with fail
                rw [← Hwa.out]
                refine Hnc.out.mono ?_
                rintro e w2 ⟨rfl, haft⟩
                obtain ⟨n2, hg2, hm2⟩ := Hhma.out.net haft hlp
                obtain ⟨k0, k1, k2, k3, -⟩ := hm2.bx.c4
                clear a0 a1 a2 a3
                obtain ⟨a0, a1, a2, a3, -⟩ := hm2.ax.c4
                have hdc2 := Hdc.out w2 n2 hm2
                unfold rnA at hdc2
                have Hdc2 := Lib.hid hdc2
                have Hm2 := Lib.hid hm2
                clear haft hm2 hdc2
                go_wp2_with fail
                refine Hdc2.out.mono ?_
                rintro e w3 ⟨r', rfl, haft⟩
                have hm3 := Hm2.out.doc haft hlp
                obtain ⟨k0, k1, k2, k3, g0, g1, g2, g3⟩ := hm3.bx.c4
                have hm4 := hm3.store
                obtain ⟨rlim', rlast', rLA', rln', rlc', rl', rCA', rcn', rcc', rcuts'⟩ := r'
                dsimp only at hm4 ⊢
                have Hm4 := Lib.hid hm4
                clear haft hm3 hm4
                go_wp2_with fail
                go_meet
                case rel => exact ⟨n2, p2, ⟨rlim', rlast', rLA', rln', rlc', rl', rCA', rcn', rcc', rcuts'⟩, _, _, rfl, rfl, rfl, rfl, by rw [hg2]; exact Hng.out, Hm4.out, hpp⟩
            · as_aux_lemma =>
                have hnc := nTurn n1 p x.b x.c wa Hhma.out.nv Hwx.out.2.2
                unfold nTurnP at hnc
                rw [Hng.out] at hnc
                have hlp := pTurn_last p x.b x.c
                have hpp := pTurn_pos p x.b x.c Hpos.out
                have hdc := fun w2 n2 (hm2 : MG w w2 n2 (pTurn p x.b x.c).1 rb r r p (i + 1) i lim wq.heap.size #[.int .i64 x.a, .int .i64 x.b, .int .i64 x.c, .slice x.A x.n x.m]) => rTurn lim r p x.b x.c w2 hm2.rv Hwx.out.2.2
                unfold rTurnP at hdc
                obtain ⟨PP, hPP⟩ : ∃ PP, PP = pTurn p x.b x.c := ⟨_, rfl⟩
                rw [← hPP] at hnc hlp hpp hdc
                obtain ⟨p2, y⟩ := PP
                dsimp only at hnc hlp hpp hdc
                have Hnc := Lib.hid hnc
                have Hdc := Lib.hid hdc
                clear hnc hdc hPP
                go_wp2_with fail
                rw [← Hwa.out]
                refine Hnc.out.mono ?_
                rintro e w2 ⟨rfl, haft⟩
                obtain ⟨n2, hg2, hm2⟩ := Hhma.out.net haft hlp
                obtain ⟨k0, k1, k2, k3, -⟩ := hm2.bx.c4
                clear a0 a1 a2 a3
                obtain ⟨a0, a1, a2, a3, -⟩ := hm2.ax.c4
                have hdc2 := Hdc.out w2 n2 hm2
                unfold rnA at hdc2
                have Hdc2 := Lib.hid hdc2
                have Hm2 := Lib.hid hm2
                clear haft hm2 hdc2
                go_wp2_with fail
                refine Hdc2.out.mono ?_
                rintro e w3 ⟨r', rfl, haft⟩
                have hm3 := Hm2.out.doc haft hlp
                obtain ⟨k0, k1, k2, k3, g0, g1, g2, g3⟩ := hm3.bx.c4
                have hm4 := hm3.store
                obtain ⟨rlim', rlast', rLA', rln', rlc', rl', rCA', rcn', rcc', rcuts'⟩ := r'
                dsimp only at hm4 ⊢
                have Hm4 := Lib.hid hm4
                clear haft hm3 hm4
                go_wp2_with fail
                go_meet
                case rel => exact ⟨n2, p2, ⟨rlim', rlast', rLA', rln', rlc', rl', rCA', rcn', rcc', rcuts'⟩, _, _, rfl, rfl, rfl, rfl, by rw [hg2]; exact Hng.out, Hm4.out, hpp⟩
            · as_aux_lemma =>
                have hnc := nCut n1 p x.b x.c true wa Hhma.out.nv hcnt
                unfold nCutP at hnc
                rw [Hng.out] at hnc
                have hlp := pWay_last p x.b x.c true
                have hpp := pWay_pos p x.b x.c true Hpos.out
                have hdc := fun w2 n2 (hm2 : MG w w2 n2 (pWay p x.b x.c true).1 rb r r p (i + 1) i lim wq.heap.size #[.int .i64 x.a, .int .i64 x.b, .int .i64 x.c, .slice x.A x.n x.m]) => rWay lim r p x.b x.c true w2 hm2.rv hcnR
                unfold rWayP at hdc
                obtain ⟨PP, hPP⟩ : ∃ PP, PP = pWay p x.b x.c true := ⟨_, rfl⟩
                rw [← hPP] at hnc hlp hpp hdc
                obtain ⟨p2, y⟩ := PP
                dsimp only at hnc hlp hpp hdc
                have Hnc := Lib.hid hnc
                have Hdc := Lib.hid hdc
                clear hnc hdc hPP
                go_wp2_with fail
                rw [← Hwa.out]
                refine Hnc.out.mono ?_
                rintro e w2 ⟨rfl, haft⟩
                obtain ⟨n2, hg2, hm2⟩ := Hhma.out.net haft hlp
                obtain ⟨k0, k1, k2, k3, -⟩ := hm2.bx.c4
                clear a0 a1 a2 a3
                obtain ⟨a0, a1, a2, a3, -⟩ := hm2.ax.c4
                have hdc2 := Hdc.out w2 n2 hm2
                unfold rnA at hdc2
                have Hdc2 := Lib.hid hdc2
                have Hm2 := Lib.hid hm2
                clear haft hm2 hdc2
                go_wp2_with fail
                refine Hdc2.out.mono ?_
                rintro e w3 ⟨r', rfl, haft⟩
                have hm3 := Hm2.out.doc haft hlp
                obtain ⟨k0, k1, k2, k3, g0, g1, g2, g3⟩ := hm3.bx.c4
                have hm4 := hm3.store
                obtain ⟨rlim', rlast', rLA', rln', rlc', rl', rCA', rcn', rcc', rcuts'⟩ := r'
                dsimp only at hm4 ⊢
                have Hm4 := Lib.hid hm4
                clear haft hm3 hm4
                go_wp2_with fail
                go_meet
                case rel => exact ⟨n2, p2, ⟨rlim', rlast', rLA', rln', rlc', rl', rCA', rcn', rcc', rcuts'⟩, _, _, rfl, rfl, rfl, rfl, by rw [hg2]; exact Hng.out, Hm4.out, hpp⟩
            · as_aux_lemma =>
                have hnc := nCut n1 p x.b x.c false wa Hhma.out.nv hcnt
                unfold nCutP at hnc
                rw [Hng.out] at hnc
                have hlp := pWay_last p x.b x.c false
                have hpp := pWay_pos p x.b x.c false Hpos.out
                have hdc := fun w2 n2 (hm2 : MG w w2 n2 (pWay p x.b x.c false).1 rb r r p (i + 1) i lim wq.heap.size #[.int .i64 x.a, .int .i64 x.b, .int .i64 x.c, .slice x.A x.n x.m]) => rWay lim r p x.b x.c false w2 hm2.rv hcnR
                unfold rWayP at hdc
                obtain ⟨PP, hPP⟩ : ∃ PP, PP = pWay p x.b x.c false := ⟨_, rfl⟩
                rw [← hPP] at hnc hlp hpp hdc
                obtain ⟨p2, y⟩ := PP
                dsimp only at hnc hlp hpp hdc
                have Hnc := Lib.hid hnc
                have Hdc := Lib.hid hdc
                clear hnc hdc hPP
                go_wp2_with fail
                rw [← Hwa.out]
                refine Hnc.out.mono ?_
                rintro e w2 ⟨rfl, haft⟩
                obtain ⟨n2, hg2, hm2⟩ := Hhma.out.net haft hlp
                obtain ⟨k0, k1, k2, k3, -⟩ := hm2.bx.c4
                clear a0 a1 a2 a3
                obtain ⟨a0, a1, a2, a3, -⟩ := hm2.ax.c4
                have hdc2 := Hdc.out w2 n2 hm2
                unfold rnA at hdc2
                have Hdc2 := Lib.hid hdc2
                have Hm2 := Lib.hid hm2
                clear haft hm2 hdc2
                go_wp2_with fail
                refine Hdc2.out.mono ?_
                rintro e w3 ⟨r', rfl, haft⟩
                have hm3 := Hm2.out.doc haft hlp
                obtain ⟨k0, k1, k2, k3, g0, g1, g2, g3⟩ := hm3.bx.c4
                have hm4 := hm3.store
                obtain ⟨rlim', rlast', rLA', rln', rlc', rl', rCA', rcn', rcc', rcuts'⟩ := r'
                dsimp only at hm4 ⊢
                have Hm4 := Lib.hid hm4
                clear haft hm3 hm4
                go_wp2_with fail
                go_meet
                case rel => exact ⟨n2, p2, ⟨rlim', rlast', rLA', rln', rlc', rl', rCA', rcn', rcc', rcuts'⟩, _, _, rfl, rfl, rfl, rfl, by rw [hg2]; exact Hng.out, Hm4.out, hpp⟩
            · as_aux_lemma =>
                have y3 : (v == 3) = false := by simpa using z3
                have y4 : (v == 4) = false := by simpa using z4
                have y5 : (v == 5) = false := by simpa using z5
                have y6 : (v == 6) = false := by simpa using z6
                have y7 : (v == 7) = false := by simpa using z7
                have y8 : (v == 8) = false := by simpa using z8
                clear z3 z4 z5 z6 z7 z8
                have hnc := nPut n1 p x.b x.c x.A x.n x.m x.d wa Hhma.out.nv Hd0.out hxn hlast
                unfold nPutP at hnc
                rw [hlmn] at hnc
                rw [Hng.out] at hnc
                have hlp := pPut_last lim p x.b x.c x.d
                have hpp := pPut_pos lim p x.b x.c x.d Hpos.out
                have hdc := fun w2 n2 (hm2 : MG w w2 n2 (pPut lim p x.b x.c x.d).1 rb r r p (i + 1) i lim wq.heap.size #[.int .i64 x.a, .int .i64 x.b, .int .i64 x.c, .slice x.A x.n x.m]) => rPut lim r p x.b x.c x.A x.n x.m x.d w2 hm2.rv (((Hdx.out.1.lt (by omega)).below hm2.be).mono fun b hb => ⟨fun hn => by have := (hm2.nv.nb hn).2; have := hm2.gw; omega, by have := hm2.rw; omega⟩) hxn hlimR hlast0 hlastR
                unfold rPutP at hdc
                obtain ⟨PP, hPP⟩ : ∃ PP, PP = pPut lim p x.b x.c x.d := ⟨_, rfl⟩
                rw [← hPP] at hnc hlp hpp hdc
                obtain ⟨p2, y⟩ := PP
                obtain ⟨y, k⟩ := y
                dsimp only at hnc hlp hpp hdc
                have Hnc := Lib.hid hnc
                have Hdc := Lib.hid hdc
                clear hnc hdc hPP
                go_wp2_with fail
                rw [← Hwa.out]
                refine Hnc.out.mono ?_
                rintro e w2 ⟨rfl, haft⟩
                obtain ⟨n2, hg2, hm2⟩ := Hhma.out.net haft hlp
                obtain ⟨k0, k1, k2, k3, -⟩ := hm2.bx.c4
                clear a0 a1 a2 a3
                obtain ⟨a0, a1, a2, a3, -⟩ := hm2.ax.c4
                have hdc2 := Hdc.out w2 n2 hm2
                unfold rnA at hdc2
                have Hdc2 := Lib.hid hdc2
                have Hm2 := Lib.hid hm2
                clear haft hm2 hdc2
                go_wp2_with fail
                refine Hdc2.out.mono ?_
                rintro e w3 ⟨r', rfl, haft⟩
                have hm3 := Hm2.out.doc haft hlp
                obtain ⟨k0, k1, k2, k3, g0, g1, g2, g3⟩ := hm3.bx.c4
                have hm4 := hm3.store
                obtain ⟨rlim', rlast', rLA', rln', rlc', rl', rCA', rcn', rcc', rcuts'⟩ := r'
                dsimp only at hm4 ⊢
                have Hm4 := Lib.hid hm4
                clear haft hm3 hm4
                go_wp2_with fail
                go_meet
                case rel => exact ⟨n2, p2, ⟨rlim', rlast', rLA', rln', rlc', rl', rCA', rcn', rcc', rcuts'⟩, _, _, rfl, rfl, rfl, rfl, by rw [hg2]; exact Hng.out, Hm4.out, hpp⟩
          case rest =>
            as_aux_lemma =>
              obtain ⟨n2, p2, r2, y, k, rfl, rfl, rfl, rfl, hng2, hmg2, hpos2⟩ := hcut
              have hyy : (y != y) = false := by simp
              have hkk : (k != k) = false := by simp
              have hnk := num_any k wc (Hg.out.under hmg2.be Hg.out.lt)
              have Hnk := Lib.hid hnk
              have Hmg2 := Lib.hid hmg2
              have Hng2 := Lib.hid hng2
              have Hpos2 := Lib.hid hpos2
              clear hnk hmg2 hng2 hpos2 c0 c1 c2 c3 hv1 hv2 hv3 hv4
              go_wp2_with fail
              refine Hnk.out.mono ?_
              rintro e w3 ⟨rfl, hb3⟩
              have hm3 := Hmg2.out.below hb3
              obtain ⟨k0, k1, k2, k3, -⟩ := hm3.bx.c4
              have hsm := same_any n2 p2 lim r2 w3 hm3.nv hm3.rv
              unfold rnA at hsm
              rw [Hng2.out] at hsm
              have Hsm := Lib.hid hsm
              have Hm3 := Lib.hid hm3
              clear hb3 hm3 hsm Hnk
              go_wp2_with fail
              refine Hsm.out.mono ?_
              rintro e w4 ⟨rfl, hb4⟩
              have hm4 := Hm3.out.below hb4
              clear k0 k1 k2 k3
              obtain ⟨k0, k1, k2, k3, -⟩ := hm4.bx.c4
              obtain ⟨a0, a1, a2, a3, -⟩ := hm4.ax.c4
              have hll := hm4.rv.rn.len
              have hl4 := hm4.rv.rn.n1
              have hrl := hm4.rv.rn.it
              have hmp : n2.l.map pl = r2.l.map pl := hm4.nv.li.trans hm4.rv.li.symm
              have hfi := fun j => first_any n2.g n2.gm n2.lim n2.last n2.cnt n2.f n2.A n2.nl n2.cl n2.l x.c (w4.drewN j) (hm4.drewN j).nv.ni.ns (by have := hm4.nv.nm; have := hm4.nv.lm; omega)
              rw [Hng2.out] at hfi
              have hst := hm4.nv.li
              obtain ⟨rlim, rlast, rLA, rln, rlc, rl, rCA, rcn, rcc, rcuts⟩ := r2
              dsimp only at k0 k1 k2 k3 hll hl4 hrl hmp
              have Hm4 := Lib.hid hm4
              have Hrl := Lib.hid hrl
              have Hll := Lib.hid hll
              have Hmp := Lib.hid hmp
              have Hfi := Lib.hid hfi
              have Hst := Lib.hid hst
              clear hb4 hm4 hrl hll hmp hfi hst Hm3 Hmg2 Hsm
              go_wp2_with fail
              go_loopg [28, 29] rln (fun mu s28 s29 wr => ∃ m j q, mu = m ∧ m ≤ rln ∧ s28 = .int .i64 (fstT x.c (rl.drop m)) ∧ s29 = .int .i64 q ∧ q = (m : Int) - 1 ∧ wr = w4.drewN j)
              case atStart => exact ⟨rln, 0, _, rfl, Nat.le_refl _, by rw [List.drop_of_length_le (by have := Hll.out; omega)]; rfl, rfl, rfl, rfl⟩
              case round =>
                obtain ⟨m, jw, q, hmm, hml, rfl, rfl, hq, rfl⟩ := hrel
                have Hmm := Lib.hid hmm
                clear hmm
                rcases m with _ | m
                · have hq1 : q = -1 := by omega
                  subst hq1
                  clear hq
                  have hF := fstT_pl (z := x.c) Hmp.out
                  rw [List.drop_zero]
                  obtain ⟨F, hFe⟩ : ∃ F, F = fstT x.c rl := ⟨_, rfl⟩
                  rw [← hFe] at hF ⊢
                  have HF := Lib.hid hF
                  have hFF : (F != F) = false := by simp
                  clear hF hFe
                  go_wp2_with fail
                  refine (Hfi.out _).mono ?_
                  rintro e w5 hfp
                  obtain ⟨hfo, hb5⟩ := first_ok hfp Hpos2.out Hst.out HF.out
                  have hm5 := ((Hm4.out.drewN jw).below hb5).head
                  have Hm5 := Lib.hid hm5
                  clear hfp hb5 hm5
                  rcases hfo with ⟨rfl, hF0⟩ | ⟨rfl, hF0⟩
                  · have hF1 : decide (0 < F) = true := by simpa using hF0
                    go_wp2_with fail
                    go_roundg (60 - (i + 1))
                    case measure => have := Hmu.out; omega
                    case rel => exact ⟨i + 1, n2, p2, ⟨rlim, rlast, rLA, rln, rlc, rl, rCA, rcn, rcc, rcuts⟩, rfl, by omega, by go_num, Hng2.out, Hm5.out, Hpos2.out⟩
                  · subst hF0
                    unfold errK
                    go_wp2_with fail
                    go_roundg (60 - (i + 1))
                    case measure => have := Hmu.out; omega
                    case rel => exact ⟨i + 1, n2, p2, ⟨rlim, rlast, rLA, rln, rlc, rl, rCA, rcn, rcc, rcuts⟩, rfl, by omega, by go_num, Hng2.out, Hm5.out, Hpos2.out⟩
                · have hqm : q = (m : Int) := by omega
                  subst hqm
                  clear hq
                  obtain ⟨yb, yo, u, hyA, -, -, hu, y0, y1, y2, y3⟩ := ic_cells Hrl.out (show m < rln by omega)
                  subst hyA
                  have hstep := fstT_drop x.c hu
                  have hmI : (m : Int) < rln := by omega
                  have hm0 : (0 : Int) ≤ m := by omega
                  have Hstep := Lib.hid hstep
                  clear hu hstep
                  generalize fstT x.c (List.drop (m + 1) rl) = F1 at Hstep ⊢
                  go_upto_region 44 with (fail)
                  go_cut [314] (fun s314 W => s314 = .bool (u.to == x.c) ∧ ∃ j, W = w4.drewN j)
                  case first =>
                    go_quiet (fail)
                    go_wp2_with fail
                    go_meet
                    case rel => exact ⟨rfl, jw + nq, by simp [World.drewN_drewN]⟩
                  case rest =>
                    obtain ⟨rfl, j5, rfl⟩ := hcut
                    by_cases hto : u.to = x.c
                    · have ht : (u.to == x.c) = true := by simpa using hto
                      have hs := Hstep.out
                      rw [if_pos hto] at hs
                      have Hs := Lib.hid hs
                      clear hs hto
                      go_wp2_with fail
                      go_roundg m
                      case measure => have := Hmm.out; omega
                      case rel => exact ⟨m, j5, _, rfl, by omega, by rw [Hs.out], rfl, rfl, rfl⟩
                    · have ht : (u.to == x.c) = false := by simpa using hto
                      have hs := Hstep.out
                      rw [if_neg hto] at hs
                      have Hs := Lib.hid hs
                      clear hs hto
                      go_wp2_with fail
                      go_roundg m
                      case measure => have := Hmm.out; omega
                      case rel => exact ⟨m, j5, _, rfl, by omega, by rw [Hs.out], rfl, rfl, rfl⟩
        · have h5d : (5000 : Int) < x.n := by omega
          clear hv1 hv2
          go_wp2_with fail
          go_roundg (60 - (i + 1))
          case measure => have := Hmu.out; omega
          case rel => exact ⟨i + 1, n1, p, r, rfl, by omega, by go_num, Hng.out, ((Hma.out 48).head).mono (by omega), Hpos.out⟩
      · have hi60d : decide ((i : Int) < 60) = false := by simp; omega
        go_wp2_with fail
        refine (sure_any _).mono ?_
        rintro e w8 ⟨rfl, hb8⟩
        go_wp2_with fail
        go_ret
        exact ⟨rfl, Hmh.out.be.trans (hb8.mono Hmh.out.be.size)⟩
    · have hind : decide ((i : Int) < (n : Int)) = false := by simp; omega
      go_wp2_with fail
      refine (sure_any _).mono ?_
      rintro e w8 ⟨rfl, hb8⟩
      go_wp2_with fail
      go_ret
      exact ⟨rfl, Hmh.out.be.trans (hb8.mono Hmh.out.be.size)⟩
end Go.Proofs.YtckpinnnmafdgaaDoor
