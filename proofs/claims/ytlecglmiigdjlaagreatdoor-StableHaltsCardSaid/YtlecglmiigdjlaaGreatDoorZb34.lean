/- Walk: StableHalts. (Printed by mkhalts15.py.) -/
import Derived.Test.YtlecglmiigdjlaaGreatDoorZb31
import Derived.Test.YtlecglmiigdjlaaGreatDoorZb32
import Derived.Test.YtlecglmiigdjlaaGreatDoorZb33
import Derived.Deep.CutBlock
import Derived.Lib.SlBytesConst
namespace Go.Proofs.YtlecglmiigdjlaaGreatDoor
open Go.RowKit
set_option maxRecDepth 100000
set_option linter.unusedVariables false
set_option linter.unusedSimpArgs false
/-- Behind i areas: the disk, somewhere above what came in, and the two texts' list in lb. -/
structure HW_ (w W : World) (g lb : Nat) (sw : Bool) (a b : List UInt8) (i : Nat) (A0 : Option Addr) (n0 c0 : Nat) (A1 : Option Addr) (n1 c1 : Nat) : Prop where
  ex : ∃ L D, DX W L g D 2000 ∧ HI sw a b i D ∧ (∀ x, L x → w.heap.size ≤ x) ∧ ¬ L lb
  bx : Bx W lb #[.slice A0 n0 c0, .slice A1 n1 c1]
  lo : w.heap.size ≤ lb
  be : Below w.heap.size w W
theorem HW_.tape {w W W' : World} {g lb tg : Nat} {sw : Bool} {a b : List UInt8} {j : Nat} {A0 : Option Addr} {n0 c0 : Nat} {A1 : Option Addr} {n1 c1 : Nat} {L L' : Nat → Prop} {t : Tp} {D' : Dk} (hbx : Bx W lb #[.slice A0 n0 c0, .slice A1 n1 c1]) (hlo : w.heap.size ≤ lb) (hbe : Below w.heap.size w W) (hl : ∀ x, L x → w.heap.size ≤ x) (hnl : ¬ L lb) (htg : w.heap.size ≤ tg) (hne : lb ≠ tg)
    (h1 : TDX W' L' tg g t D' 2000) (h2 : ∀ x, L' x → L x ∨ W.heap.size ≤ x) (h3 : Kept (fun x => L x ∨ x = tg) W W') (hi : HI sw a b j D') : HW_ w W' g lb sw a b j A0 n0 c0 A1 n1 c1 := by
  have hz := hbe.size
  have hlt := hbx.lt
  exact ⟨⟨L', D', h1.dx, hi, fun x hx => (h2 x hx).elim (hl x) fun h => by omega, fun hx => (h2 lb hx).elim hnl fun h => by omega⟩, h3.bx hbx (fun h => h.elim hnl hne), hlo, hbe.trans (h3.below (B := w.heap.size) (fun x hx => hx.elim (hl x) fun h => by omega) hz)⟩
theorem DecRPost.gen {W w' : World} {ok : Nat → Prop} {o : Option (Nat × St)} {e : Ending} (h : DecRPost W ok o e w') : ∃ (n : Int) (s : Sv) (f : Int), e = .returned (.tuple #[.int .i64 n, s.val, .int .i64 f]) ∧ Below W.heap.size W w' ∧ ((o = none ∧ f = 3) ∨ (∃ x, o = some x ∧ f = 0 ∧ n = (x.1 : Nat) ∧ s.At w' T ∧ s.st = x.2 ∧ s.Fit)) := by
  cases o with
  | none =>
    rw [DecRPost_none] at h
    exact ⟨0, ⟨0, 0, 0, 0, none, 0, 0, [], none, 0, 0, [], none, 0, 0, []⟩, 3, h.1, h.2, .inl ⟨rfl, rfl⟩⟩
  | some x =>
    rw [DecRPost_some] at h
    obtain ⟨s, h1, h2, h3, h4, h5⟩ := h
    exact ⟨_, s, 0, h1, h5, .inr ⟨x, rfl, rfl, rfl, h2.any, h3, h4⟩⟩
theorem row2 {W : World} {lb : Nat} {A0 : Option Addr} {n0 c0 : Nat} {A1 : Option Addr} {n1 c1 : Nat} (h : Bx W lb #[.slice A0 n0 c0, .slice A1 n1 c1]) : W.cell? ⟨lb, 0, none⟩ = some (.slice A0 n0 c0) ∧ W.cell? ⟨lb, 1, none⟩ = some (.slice A1 n1 c1) := ⟨h.c 0, h.c 1⟩
set_option maxHeartbeats 12800000 in
theorem halts_walk (A0 : Option Addr) (n0 c0 : Nat) (la : List UInt8) (A1 : Option Addr) (n1 c1 : Nat) (lb : List UInt8) (sw : Bool) (w : World) (r0 : Rd w T 1 A0 n0 (bs la)) (k0 : n0 ≤ c0 ∧ c0 ≤ maxLen) (r1 : Rd w T 1 A1 n1 (bs lb)) (k1 : n1 ≤ c1 ∧ c1 ≤ maxLen) (htab : TabW w) (hev : EvW w w.heap.size) (hg : ErrT w) :
    Calls Tryz.prog 4 #[.slice A0 n0 c0, .slice A1 n1 c1, .bool sw] w (YesPost w) := by
  have hsure := fun W (hb : Below w.heap.size w W) => sure_any W (htab.below hb (Nat.le_refl _)) ((hev.below hb (Nat.le_refl _)).mono hb.size)
  have hw0 := hg.lt
  have hnum : ∀ k W, Below w.heap.size w W → Calls Tryz.prog 6 #[errD k] W fun e w' => e = .returned (.int .i64 k) ∧ Below W.heap.size W w' := fun k W hb => num_any k W (hg.under hb hw0)
  have htb := fun W (hb : Below w.heap.size w W) => htab.below hb (Nat.le_refl _)
  have hvb := fun W (hb : Below w.heap.size w W) => (hev.below hb (Nat.le_refl _)).mono hb.size
  have hla : la.length = n0 := r0.blen
  have hlb : lb.length = n1 := r1.blen
  have Hsure := Lib.hid hsure
  have Hnum := Lib.hid hnum
  have Htb := Lib.hid htb
  have Hvb := Lib.hid hvb
  have R0 := Lib.hid (And.intro r0 k0)
  have R1 := Lib.hid (And.intro r1 k1)
  have LL := Lib.hid (And.intro hla hlb)
  have hmx : maxLen = 9223372036854775807 := by decide
  have hk0 := k0
  have hk1 := k1
  rw [hmx] at hk0 hk1
  clear hsure hnum htb hvb htab hev hg r0 r1 hmx k0 k1 hla hlb
  by_cases hn : 900 < n0 ∨ 900 < n1
  · have Hs := Lib.hid (Hsure.out _ (Below.refl _ _))
    by_cases h0 : 900 < n0
    · have hnI : decide ((900 : Int) < (n0 : Nat)) = true := decide_eq_true (by omega)
      go_enter Tryz.func4, Tryz.ntmps4
      go_wp2_with fail
      refine Hs.out.mono ?_
      rintro e w5 ⟨rfl, hb5⟩
      have B5 := Lib.hid hb5
      go_wp2_with fail
      go_ret
      exact ⟨rfl, B5.out⟩
    · have hnI : decide ((900 : Int) < (n0 : Nat)) = false := decide_eq_false (by omega)
      have hnJ : decide ((900 : Int) < (n1 : Nat)) = true := decide_eq_true (by omega)
      go_enter Tryz.func4, Tryz.ntmps4
      go_wp2_with fail
      refine Hs.out.mono ?_
      rintro e w5 ⟨rfl, hb5⟩
      have B5 := Lib.hid hb5
      go_wp2_with fail
      go_ret
      exact ⟨rfl, B5.out⟩
  have hnI : decide ((900 : Int) < (n0 : Nat)) = false := decide_eq_false (by omega)
  have hnJ : decide ((900 : Int) < (n1 : Nat)) = false := decide_eq_false (by omega)
  have hbk := blank_any 2000 (by omega) (by omega) w
  have Hbk := Lib.hid hbk
  clear hbk
  go_enter Tryz.func4, Tryz.ntmps4
  go_wp2_with fail
  refine Hbk.out.mono ?_
  rintro e w1 ⟨L, g, rfl, hd, hl, hb1⟩
  have hal1 : Below w1.heap.size w1 (w1.alloc (.cells #[.slice A0 n0 c0, .slice A1 n1 c1] 33)) := (Below.refl _ _).alloc (Nat.le_refl _) _
  have h0 : HW_ w (w1.alloc (.cells #[.slice A0 n0 c0, .slice A1 n1 c1] 33)) g w1.heap.size sw la lb 0 A0 n0 c0 A1 n1 c1 := ⟨⟨L, _, hd.below hal1, make_hi sw la lb, hl, fun h => by have := hd.lt _ h; omega⟩, Bx.new _ _ _ rfl, hb1.size, hb1.trans (hal1.mono hb1.size)⟩
  have S0 := Lib.hid h0
  clear hd hl hb1 hal1 h0
  go_wp2_with fail
  go_loopg [9, 10, 11, 12] 2 (fun m s9 s10 s11 s12 wr => ∃ i, m = 2 - i ∧ i ≤ 2 ∧ s9 = .int .i64 (i : Nat) ∧ HW_ w wr g w1.heap.size sw la lb i A0 n0 c0 A1 n1 c1)
  case atStart =>
    exact ⟨0, by omega, by omega, rfl, S0.out⟩
  case round =>
    obtain ⟨i, hm', hi, rfl, hsv⟩ := hrel
    have Hm := Lib.hid hm'
    have SV := Lib.hid hsv
    clear hm' hsv S0
    obtain ⟨wa, rfl⟩ : ∃ wa, wa = wr := ⟨_, rfl⟩
    by_cases hlt : i < 2
    · have hltI : (i : Int) < 2 := by omega
      have h0i : (0 : Int) ≤ i := by omega
      obtain ⟨L1, D1, hdx, hhi, hlL, hnL⟩ := SV.out.ex
      have htop := top_any (1000 * i) 1000 (1000 * i + 1000) wa hdx rfl (by omega) (by omega) (by omega) hhi.calm.off
      obtain ⟨p, hp⟩ : ∃ p, recs D1.now (1000 * i) (1000 * i + 1000) = ([], p, false) := by
        rcases (show i = 0 ∨ i = 1 by omega) with rfl | rfl
        · exact hhi.r0
        · exact hhi.r1
      have hpe := recs_empty hp
      subst hpe
      rw [hp] at htop
      have e1 : ((1000 * i : Nat) : Int) = 1000 * (i : Nat) := by omega
      rw [e1] at htop
      have Htop := Lib.hid htop
      have X1 := Lib.hid (And.intro hdx (And.intro hhi (And.intro hlL (And.intro hnL hp))))
      clear hdx hhi hlL hnL htop hp e1
      go_wp2_with fail
      refine Htop.out.mono ?_
      intro e w2 hp2
      obtain ⟨hb2, hp2⟩ := hp2
      obtain ⟨tg, A2, m2, c2, rows, rfl, htg, htd, -⟩ : ∃ tg A m c rows, e = .returned (.tuple #[.pointer (some ⟨tg, 0, none⟩), .slice A m c, .nilIface]) ∧ wa.heap.size ≤ tg ∧ TDX w2 L1 tg g ⟨1000 * i + 1000, 1000 * i, 1000 * i, 0, 0⟩ D1 2000 ∧ True := by
        rcases hp2 with ⟨h, _⟩ | ⟨_, tg, A, m, c, rows, h1, h2, h3, _⟩
        · cases h
        · exact ⟨tg, A, m, c, rows, h1, h2, h3, trivial⟩
      have hbx2 := SV.out.bx.below hb2
      have hbe2 := SV.out.be.trans (hb2.mono SV.out.be.size)
      have hne : w1.heap.size ≠ tg := by have := SV.out.bx.lt; omega
      have htg2 : w.heap.size ≤ tg := by have := SV.out.be.size; omega
      have X2 := Lib.hid (And.intro htd (And.intro hbx2 (And.intro hbe2 (And.intro hne htg2))))
      clear hb2 hp2 htg htd hbx2 hbe2 hne htg2
      go_upto_region 11 with (fail)
      go_cut [60] (fun s60 W => s60 = .bool false ∧ ∃ L2 D2 t2, TDX W L2 tg g t2 D2 2000 ∧ t2.en = 1000 * i + 1000 ∧ t2.fr = 1000 * i ∧ t2.dead = 0 ∧ t2.p ≤ 1000 * i + 6 ∧ 1000 * i ≤ t2.p ∧ D2.Calm 2000 ∧ D2.armed = 0 ∧ recs D2.now t2.fr t2.en = (preR sw, t2.p, false) ∧ (∀ fr e r z, fr ≤ e → (e ≤ 1000 * i ∨ 1000 * i + 1000 ≤ fr) → recs D1.now fr e = (r, z, false) → recs D2.now fr e = (r, z, false)) ∧ (∀ x, L2 x → L1 x ∨ w2.heap.size ≤ x) ∧ Kept (fun x => L1 x ∨ x = tg) w2 W)
      case first =>
        cases sw
        · go_wp2_with fail
          go_meet
          case rel => exact ⟨rfl, L1, D1, _, X2.out.1, rfl, rfl, rfl, Nat.le_add_right _ _, Nat.le_refl _, X1.out.2.1.calm, X1.out.2.1.ar, X1.out.2.2.2.2, fun _ _ _ _ _ _ h => h, fun x h => .inl h, Kept.refl _ _⟩
        · obtain ⟨D2, q1, q2, q3, q4, q5⟩ := halt_app (t := ⟨1000 * i + 1000, 1000 * i, 1000 * i, 0, 0⟩) (b := [120]) X1.out.2.1.calm X1.out.2.1.ar X1.out.2.2.2.2 rfl (by dsimp only; omega) (by dsimp only; simp)
          have hal : Below w2.heap.size w2 (w2.alloc (.cells #[.int .u8 120] 5 (1, 2))) := (Below.refl _ _).alloc (Nat.le_refl _) _
          have hap := append_any (some ⟨w2.heap.size, 0, none⟩) 1 1 [120] (w2.alloc (.cells #[.int .u8 120] 5 (1, 2))) (X2.out.1.below hal) ((show Rd (w2.alloc (.cells #[.int .u8 120] 5 (1, 2))) (w2.heap.size ≤ ·) 1 (some ⟨w2.heap.size, 0, none⟩) 1 [.int .u8 120] from Rd.lit rfl).any) (by unfold maxLen; omega) (by rw [X1.out.2.1.calm.q]; exact Nat.zero_le _)
          rw [q1] at hap
          have Hap := Lib.hid hap
          have QQ := Lib.hid (And.intro q2 (And.intro q3 (And.intro q4 (And.intro q5 hal))))
          clear q1 q2 q3 q4 q5 hap hal
          have kc := fun (W : World) (C : Array Value) (n c : Nat) => Lib.run_convert_bytes_const (P := Tryz.prog) W 33 5 C n c Tryz.underlying33 Tryz.underlying5
          go_wp2_with fail
          refine Hap.out.mono ?_
          rintro e w3 ⟨rfl, L3, t3, l3, k3⟩
          have K3 := Lib.hid (And.intro t3 (And.intro l3 k3))
          clear t3 l3 k3
          rw [show errD (0 : Int) = .nilIface from rfl]
          go_wp2_with fail
          go_meet
          case rel =>
            refine ⟨rfl, L3, D2, _, K3.out.1, rfl, rfl, rfl, by simp, by show 1000 * i ≤ 1000 * i + 5 + 1; omega, QQ.out.1, QQ.out.2.1, QQ.out.2.2.1, fun fr e r z h1 h2 => QQ.out.2.2.2.1 fr e r z h1 (by show e ≤ 1000 * i ∨ 1000 * i + 1000 ≤ fr; exact h2), fun x hx => (K3.out.2.1 x hx).imp_right fun h => Nat.le_trans QQ.out.2.2.2.2.size h, ?_⟩
            exact (Kept.of_new (U := fun x => L1 x ∨ x = tg) QQ.out.2.2.2.2).trans K3.out.2.2 (fun _ _ h => h)
      case rest =>
      obtain ⟨rfl, L2, D2, t2, z1, z2, z3, z4, z5, z6, z7, z8, z9, z10, z11, z12⟩ := hcut
      obtain ⟨bi, Ai, ni, ci, hbi, hci, hri, hni, hli⟩ : ∃ bi Ai ni ci, wc.cell? ⟨w1.heap.size, i, none⟩ = some (.slice Ai ni ci) ∧ ni ≤ 900 ∧ Rd wc T 1 Ai ni (bs bi) ∧ bi.length = ni ∧ ((i = 0 ∧ bi = la) ∨ (i = 1 ∧ bi = lb)) := by
        have hbw : Below w.heap.size w wc := X2.out.2.2.1.trans (z12.below (B := w.heap.size) (fun x hx => hx.elim (X1.out.2.2.1 x) fun h => by have := X2.out.2.2.2.2; omega) X2.out.2.2.1.size)
        have hbx : Bx wc w1.heap.size #[.slice A0 n0 c0, .slice A1 n1 c1] := z12.bx X2.out.2.1 (fun h => h.elim X1.out.2.2.2.1 X2.out.2.2.2.1)
        obtain ⟨y0, y1⟩ := row2 hbx
        rcases (show i = 0 ∨ i = 1 by omega) with rfl | rfl
        · exact ⟨la, A0, n0, c0, y0, by omega, R0.out.1.below hbw, LL.out.1, .inl ⟨rfl, rfl⟩⟩
        · exact ⟨lb, A1, n1, c1, y1, by omega, R1.out.1.below hbw, LL.out.2, .inr ⟨rfl, rfl⟩⟩
      obtain ⟨D3, q1, q2, q3, q4, q5⟩ := halt_app (t := t2) (b := bi) z7 z8 z9 z4 (by omega) (by omega)
      have hap := append_any Ai ni ci bi wc z1 hri (by unfold maxLen; omega) (by rw [z7.q]; exact Nat.zero_le _)
      rw [q1] at hap
      have Hap := Lib.hid hap
      have ZZ := Lib.hid (And.intro z2 (And.intro z3 (And.intro z5 (And.intro z6 (And.intro z10 (And.intro z11 z12))))))
      have QQ := Lib.hid (And.intro q2 (And.intro q3 (And.intro q4 (And.intro q5 hli))))
      clear z1 z2 z3 z4 z5 z6 z7 z8 z9 z10 z11 z12 q1 q2 q3 q4 q5 hap hri hni hli
      go_wp2_with fail
      refine Hap.out.mono ?_
      rintro e w4 ⟨rfl, L3, t3, l3, k3⟩
      have K3 := Lib.hid (And.intro t3 (And.intro l3 k3))
      clear t3 l3 k3 hbi
      rw [show errD (0 : Int) = .nilIface from rfl]
      go_wp2_with fail
      go_roundg (2 - (i + 1))
      case measure => have := Hm.out; omega
      case rel =>
        have zz := ZZ.out
        have hk : Kept (fun x => L1 x ∨ x = tg) w2 w4 := zz.2.2.2.2.2.2.trans K3.out.2.2 (fun x hx h => h.elim (fun h => (zz.2.2.2.2.2.1 x h).elim .inl fun h => by omega) .inr)
        refine ⟨i + 1, rfl, by omega, by go_num, HW_.tape X2.out.2.1 SV.out.lo X2.out.2.2.1 X1.out.2.2.1 X1.out.2.2.2.1 X2.out.2.2.2.2 X2.out.2.2.2.1 K3.out.1 (fun x hx => (K3.out.2.1 x hx).elim (zz.2.2.2.2.2.1 x) fun h => .inr (Nat.le_trans zz.2.2.2.2.2.2.size h)) hk ?_⟩
        have q4 := QQ.out.2.2.1
        rw [zz.1, zz.2.1] at q4
        have q5 := QQ.out.2.2.2.1
        rcases QQ.out.2.2.2.2 with ⟨rfl, rfl⟩ | ⟨rfl, rfl⟩
        · refine ⟨QQ.out.1, QQ.out.2.1, ⟨_, q4⟩, ?_⟩
          obtain ⟨p, hp⟩ := X1.out.2.1.r1
          exact ⟨p, q5 1000 2000 _ _ (by omega) (.inr (by rw [zz.1]; omega)) (zz.2.2.2.2.1 1000 2000 _ _ (by omega) (.inr (by omega)) hp)⟩
        · refine ⟨QQ.out.1, QQ.out.2.1, ?_, ⟨_, q4⟩⟩
          obtain ⟨p, hp⟩ := X1.out.2.1.r0
          exact ⟨p, q5 0 1000 _ _ (by omega) (.inl (by have := zz.2.2.2.1; omega)) (zz.2.2.2.2.1 0 1000 _ _ (by omega) (.inl (by omega)) hp)⟩
    · obtain rfl : i = 2 := by omega
      obtain ⟨L1, D1, hdx, hhi, hlL, hnL⟩ := SV.out.ex
      have X1 := Lib.hid (And.intro hdx (And.intro hhi hlL))
      clear hdx hhi hlL hnL
      have hal : Below wa.heap.size wa (wa.alloc (.cells #[.int .i64 1] 3)) := (Below.refl _ _).alloc (Nat.le_refl _) _
      have hb5 : Below w.heap.size w (wa.alloc (.cells #[.int .i64 1] 3)) := SV.out.be.trans (hal.mono SV.out.be.size)
      have hop := kopen_any (fb := 0) (some ⟨wa.heap.size, 0, none⟩) 1 1 [1] _ (X1.out.1.below hal) ((show Rd (wa.alloc (.cells #[.int .i64 1] 3)) (wa.heap.size ≤ ·) 1 (some ⟨wa.heap.size, 0, none⟩) 1 [.int .i64 1] from Rd.lit rfl).mono fun b hb hL => by have := X1.out.1.lt b hL; have h9 : wa.heap.size ≤ b := hb; omega) ⟨by omega, by unfold maxLen; omega⟩ (by rfl) (by omega) X1.out.2.1.calm.off (by rw [X1.out.2.1.calm.q]; exact Nat.zero_le _) (Htb.out _ hb5) (Hvb.out _ hb5) (by simp)
      have Hop := Lib.hid hop
      have B5 := Lib.hid hb5
      have Z5 := Lib.hid hal.size
      clear hop hb5 hal
      go_wp2_with fail
      refine Hop.out.mono ?_
      intro e w5 hp
      have HDa := Lib.hid (fun W (hb : Below w.heap.size w W) => kdecR_any A0 n0 c0 la W (R0.out.1.lt (by omega) |>.below hb) R0.out.2.1 R0.out.2.2)
      have HDb := Lib.hid (fun W (hb : Below w.heap.size w W) => kdecR_any A1 n1 c1 lb W (R1.out.1.lt (by omega) |>.below hb) R1.out.2.1 R1.out.2.2)
      by_cases hnn : stD la = none ∨ stD lb = none
      · have hon := X1.out.2.1.open_none hnn
        obtain ⟨rfl, hb6⟩ : e = .returned (.tuple #[.pointer none, .iface 69 (.int .i64 14)]) ∧ Below (wa.alloc (.cells #[.int .i64 1] 3)).heap.size (wa.alloc (.cells #[.int .i64 1] 3)) w5 := by
          rcases hp with ⟨_, h1, h2⟩ | ⟨K, _, _, _, _, h1, _⟩ | ⟨K, _, _, _, _, _, h1, _⟩ | ⟨K, h1, _⟩
          · exact ⟨h1, h2⟩
          · rw [hon] at h1; cases h1
          · rw [hon] at h1; cases h1
          · rw [hon] at h1; cases h1
        have B6 := Lib.hid (B5.out.trans (hb6.mono B5.out.size))
        have HN := Lib.hid hnn
        clear hp hon hb6 hnn
        have hda := HDa.out w5 B6.out
        have Hda := Lib.hid hda
        clear hda
        go_wp2_with fail
        refine Hda.out.mono ?_
        intro e w6 hp6
        obtain ⟨na, sa, fa, rfl, hb7, hca⟩ := hp6.gen
        have CA := Lib.hid hca
        have B7 := Lib.hid (B6.out.trans (hb7.mono B6.out.size))
        clear hp6 hb7 hca
        unfold Sv.val stA
        go_upto_region 17 with (fail)
        obtain ⟨W7, hW7⟩ : ∃ W7, W7 = w6.alloc (.cells #[.int .i64 sa.tm, .int .i64 sa.vt, .int .i64 sa.b, .int .i64 sa.t, .slice sa.A sa.n sa.c, .slice sa.C sa.nc sa.cc, .slice sa.S sa.ns sa.cs] 50) := ⟨_, rfl⟩
        have hb8 : Below w.heap.size w W7 := by subst hW7; exact B7.out.alloc B7.out.size _
        rw [← hW7]
        have hdb := HDb.out W7 hb8
        have Hdb := Lib.hid hdb
        have B8 := Lib.hid hb8
        clear hW7 hb8 hdb
        go_wp2_with fail
        refine Hdb.out.mono ?_
        intro e w8 hp8
        obtain ⟨nb_, sb, fb, rfl, hb9, hcb⟩ := hp8.gen
        have hfab : fa = 3 ∨ fa = 0 ∧ fb = 3 := by
          rcases CA.out with ⟨_, h⟩ | ⟨x, h1, h2, _⟩
          · exact .inl h
          · rcases hcb with ⟨_, h⟩ | ⟨y, h3, _⟩
            · exact .inr ⟨h2, h⟩
            · rcases HN.out with h | h
              · rw [h] at h1; cases h1
              · rw [h] at h3; cases h3
        have B9 := Lib.hid (B8.out.trans (hb9.mono B8.out.size))
        clear hp8 hb9 hcb
        unfold Sv.val stA
        go_upto_region 18 with (fail)
        obtain ⟨W9, hW9⟩ : ∃ W9, W9 = w8.alloc (.cells #[.int .i64 sb.tm, .int .i64 sb.vt, .int .i64 sb.b, .int .i64 sb.t, .slice sb.A sb.n sb.c, .slice sb.C sb.nc sb.cc, .slice sb.S sb.ns sb.cs] 50) := ⟨_, rfl⟩
        have hb10 : Below w.heap.size w W9 := by subst hW9; exact B9.out.alloc B9.out.size _
        rw [← hW9]
        have hn := Hnum.out 14 W9 hb10
        rw [show errD 14 = .iface 69 (.int .i64 14) from rfl] at hn
        have Hn := Lib.hid hn
        have B10 := Lib.hid hb10
        clear hW9 hb10 hn
        rcases hfab with rfl | ⟨rfl, rfl⟩
        all_goals
          go_wp2_with fail
          refine Hn.out.mono ?_
          rintro e w11 ⟨rfl, hb11⟩
          have b11 := B10.out.trans (hb11.mono B10.out.size)
          have Hs := Lib.hid (Hsure.out _ b11)
          have B11 := Lib.hid b11
          clear hb11 b11
          go_wp2_with fail
          refine Hs.out.mono ?_
          rintro e w12 ⟨rfl, hb12⟩
          have B12 := Lib.hid (B11.out.trans (hb12.mono B11.out.size))
          clear hb12
          go_wp2_with fail
          go_ret
          exact ⟨rfl, B12.out⟩
      · obtain ⟨x, hx⟩ : ∃ x, stD la = some x := by
          cases h : stD la with
          | none => exact absurd (.inl h) hnn
          | some x => exact ⟨x, rfl⟩
        obtain ⟨y, hy⟩ : ∃ y, stD lb = some y := by
          cases h : stD lb with
          | none => exact absurd (.inr h) hnn
          | some x => exact ⟨x, rfl⟩
        obtain ⟨K, hoK, hKn⟩ := X1.out.2.1.open_some hx hy
        have hK1 : 1 ≤ K.n ∧ K.now.may = true := by
          have h1 := stD_some hx
          have h2 := stD_some hy
          have e1 := congrArg Prod.fst hKn
          have e2 := congrArg Prod.snd hKn
          dsimp only at e1 e2
          rw [e1, e2]
          split
          · exact h2
          · exact h1
        obtain ⟨kb, t0, t1, z, rfl, kx, hb6⟩ : ∃ kb t0 t1 z, e = .returned (.tuple #[.pointer (some ⟨kb, 0, none⟩), .nilIface]) ∧ KX 0 w5 L1 kb g t0 t1 K z D1 2000 ∧ Below (wa.alloc (.cells #[.int .i64 1] 3)).heap.size (wa.alloc (.cells #[.int .i64 1] 3)) w5 := by
          rcases hp with ⟨h1, _⟩ | ⟨K', k, t0, t1, z, h1, _, h2, h3, _, _, _, h4⟩ | ⟨K', _, _, _, _, _, h1, h2, _⟩ | ⟨K', h1, h2, _⟩
          · rw [hoK] at h1; cases h1
          · rw [hoK] at h1; injection h1 with h1; subst h1
            exact ⟨k, t0, t1, z, h2, h3, h4⟩
          · rw [hoK] at h1; injection h1 with h1; subst h1; omega
          · rw [hoK] at h1; injection h1 with h1; subst h1; omega
        have B6 := Lib.hid (B5.out.trans (hb6.mono B5.out.size))
        have KXh := Lib.hid kx
        have HK := Lib.hid (And.intro hKn hK1)
        have HX := Lib.hid (And.intro hx hy)
        clear hp hoK hb6 hnn kx hKn hK1 hx hy
        have hda := HDa.out w5 B6.out
        have Hda := Lib.hid hda
        clear hda
        go_wp2_with fail
        refine Hda.out.mono ?_
        intro e w6 hp6
        rw [HX.out.1, DecRPost_some] at hp6
        obtain ⟨sa, rfl, aa, ea, fa, hb7⟩ := hp6
        unfold Sv.val stA
        go_upto_region 17 with (fail)
        obtain ⟨W7, hW7⟩ : ∃ W7, W7 = w6.alloc (.cells sa.cells 50) := ⟨_, rfl⟩
        have hal7 : Below w6.heap.size w6 W7 := by subst hW7; exact (Below.refl _ _).alloc (Nat.le_refl _) _
        have xa : Bx W7 w6.heap.size sa.cells := by subst hW7; exact Bx.new _ _ _ rfl
        have hb8 : Below w5.heap.size w5 W7 := hb7.trans (hal7.mono hb7.size)
        unfold Sv.cells at hW7
        rw [← hW7]
        obtain ⟨b16, hb16⟩ : ∃ b16, b16 = w6.heap.size := ⟨_, rfl⟩
        rw [← hb16] at xa ⊢
        have hle16 : w5.heap.size ≤ b16 := by have := hb7.size; omega
        have A7 := Lib.hid (And.intro (aa.below hal7) (And.intro ea (And.intro fa (And.intro xa (And.intro hb8 hle16)))))
        have hdb := HDb.out W7 (B6.out.trans (hb8.mono B6.out.size))
        have Hdb := Lib.hid hdb
        clear hW7 hb8 hdb aa ea fa xa hal7 hb7 hb16 hle16
        go_wp2_with fail
        refine Hdb.out.mono ?_
        intro e w8 hp8
        rw [HX.out.2, DecRPost_some] at hp8
        obtain ⟨sb, rfl, ab, eb, fb, hb9⟩ := hp8
        unfold Sv.val stA
        go_upto_region 18 with (fail)
        obtain ⟨W9, hW9⟩ : ∃ W9, W9 = w8.alloc (.cells sb.cells 50) := ⟨_, rfl⟩
        have hal9 : Below w8.heap.size w8 W9 := by subst hW9; exact (Below.refl _ _).alloc (Nat.le_refl _) _
        have xb : Bx W9 w8.heap.size sb.cells := by subst hW9; exact Bx.new _ _ _ rfl
        have hb10 : Below W7.heap.size W7 W9 := hb9.trans (hal9.mono hb9.size)
        unfold Sv.cells at hW9
        rw [← hW9]
        have hne : b16 ≠ w8.heap.size := by have := A7.out.2.2.2.1.lt; have := hb9.size; omega
        obtain ⟨b19, hb19⟩ : ∃ b19, b19 = w8.heap.size := ⟨_, rfl⟩
        rw [← hb19] at xb hne ⊢
        have hle19 : w5.heap.size ≤ b19 := by have := A7.out.2.2.2.2.1.size; have := hb9.size; omega
        have A9 := Lib.hid (And.intro (ab.below hal9) (And.intro eb (And.intro fb (And.intro xb (And.intro ((A7.out.1.any.below hb10)) (And.intro (A7.out.2.2.2.1.below hb10) (And.intro hne (A7.out.2.2.2.2.1.trans (hb10.mono A7.out.2.2.2.2.1.size)))))))))
        clear hW9 hb10 ab eb fb xb hal9 hb9 hb19 hle19 hne
        go_upto_if 104 with (fail)
        go_cut [15] (fun s15 W => ∃ sz : Sv, s15 = .int .i64 (K.n : Nat) ∧ Bx W b16 sz.cells ∧ sz.st = K.now ∧ sz.At W T ∧ sz.Fit ∧ Below w5.heap.size w5 W)
        case first =>
          have hKn := HK.out.1
          by_cases hlt2 : x.1 < y.1
          · rw [if_pos hlt2] at hKn
            have hK1 : K.n = y.1 := congrArg Prod.fst hKn
            have hK2 : K.now = y.2 := congrArg Prod.snd hKn
            have hd1 : decide (x.1 < y.1) = true := decide_eq_true hlt2
            have hd2 : decide (((x.1 : Nat) : Int) < (y.1 : Nat)) = true := decide_eq_true (by omega)
            have HKK := Lib.hid (And.intro hK1 hK2)
            have hff := fun W (hb : Below W9.heap.size W9 W) => Sv.c7 (A9.out.2.2.2.1.below hb)
            have FF := Lib.hid hff
            obtain ⟨d0', d1', d2', d3', d4', d5', d6'⟩ := Sv.c7 A9.out.2.2.2.2.2.1
            have fk := A9.out.2.2.2.2.2.1.f
            have g0' := fk 0
            have g1' := fk 1
            have g2' := fk 2
            have g3' := fk 3
            have g4' := fk 4
            have g5' := fk 5
            have g6' := fk 6
            clear hKn hK1 hK2 hff fk
            go_upto_region 21 with (fail)
            refine wp_region_S 3 (fun W => Below W9.heap.size W9 W) (.take 0 (.take 1 (.take 2 (.one 3 (.nil))))) (by kernel_rfl) (Below.refl _ _).drew (fun _ _ _ _ h => h) (fun hS => ?_)
            repeat (first
              | (refine wpS_take (v := ?_) rfl rfl (by rfl) ?_ ?_; rotate_left; (intro W hW; have hf := FF.out W hW; go_split_ands; go_simp; try with_reducible rfl); try simp only [Act.put, List.setIfInBounds_toArray, List.set_cons_zero, List.set_cons_succ])
              | (refine wpS_skip rfl rfl (by rfl) ?_; try simp only [Act.put, List.setIfInBounds_toArray, List.set_cons_zero, List.set_cons_succ]))
            refine wpS_last rfl (by rfl) (fun K hK => ?_)
            go_simp
            refine hK _ _ ?_
            clear hK K
            try simp only [Act.put, List.setIfInBounds_toArray, List.set_cons_zero, List.set_cons_succ]
            refine wpS_nil ?_
            clear hS
            go_wp2_with fail
            go_meet
            case rel =>
              have hx := A9.out.2.2.2.2.2.1
              unfold Sv.cells at hx
              have hbS : Below w5.heap.size w5 ((((((((W9.setCell ⟨b16, 0, none⟩ (.int .i64 sb.tm)).setCell ⟨b16, 1, none⟩ (.int .i64 sb.vt)).setCell ⟨b16, 2, none⟩ (.int .i64 sb.b)).setCell ⟨b16, 3, none⟩ (.int .i64 sb.t)).setCell ⟨b16, 4, none⟩ (.slice sb.A sb.n sb.c)).setCell ⟨b16, 5, none⟩ (.slice sb.C sb.nc sb.cc)).setCell ⟨b16, 6, none⟩ (.slice sb.S sb.ns sb.cs)).drew) := by
                have h16 := A7.out.2.2.2.2.2
                exact (((((((A9.out.2.2.2.2.2.2.2.setCell (p := ⟨b16, 0, none⟩) h16 _).setCell (p := ⟨b16, 1, none⟩) h16 _).setCell (p := ⟨b16, 2, none⟩) h16 _).setCell (p := ⟨b16, 3, none⟩) h16 _).setCell (p := ⟨b16, 4, none⟩) h16 _).setCell (p := ⟨b16, 5, none⟩) h16 _).setCell (p := ⟨b16, 6, none⟩) h16 _).drew
              refine ⟨sb, by rw [HKK.out.1], (hx.set7z _ _ _ _ _ _ _).drew, A9.out.2.1.trans HKK.out.2.symm, (A9.out.1.keep (W' := ((((((((W9.setCell ⟨b16, 0, none⟩ (.int .i64 sb.tm)).setCell ⟨b16, 1, none⟩ (.int .i64 sb.vt)).setCell ⟨b16, 2, none⟩ (.int .i64 sb.b)).setCell ⟨b16, 3, none⟩ (.int .i64 sb.t)).setCell ⟨b16, 4, none⟩ (.slice sb.A sb.n sb.c)).setCell ⟨b16, 5, none⟩ (.slice sb.C sb.nc sb.cc)).setCell ⟨b16, 6, none⟩ (.slice sb.S sb.ns sb.cs)).drew)) fun b hb _ => keep7d (fun e => by have h1 := A7.out.2.2.2.1.lt; have h2 := A7.out.2.2.2.2.2; have h3 := B6.out.size; rcases hb with hb | hb <;> omega) _ _ _ _ _ _ _).any, A9.out.2.2.1, hbS⟩
          · rw [if_neg hlt2] at hKn
            have hK1 : K.n = x.1 := congrArg Prod.fst hKn
            have hK2 : K.now = x.2 := congrArg Prod.snd hKn
            have hd1 : decide (x.1 < y.1) = false := decide_eq_false hlt2
            have hd2 : decide (((x.1 : Nat) : Int) < (y.1 : Nat)) = false := decide_eq_false (by omega)
            have HKK := Lib.hid (And.intro hK1 hK2)
            clear hKn hK1 hK2
            go_wp2_with fail
            go_meet
            case rel => exact ⟨sa, by rw [HKK.out.1], A9.out.2.2.2.2.2.1, A7.out.2.1.trans HKK.out.2.symm, A9.out.2.2.2.2.1, A7.out.2.2.1, A9.out.2.2.2.2.2.2.2⟩
        case rest =>
        obtain ⟨sz, rfl, xz, ez, az, fz, bz⟩ := hcut
        have Z9 := Lib.hid (And.intro xz (And.intro ez (And.intro az (And.intro fz bz))))
        have hff := fun W (hb : Below wc.heap.size wc W) => Sv.c7 (xz.below hb)
        have FF := Lib.hid hff
        have hbz := fun W (hb : Below wc.heap.size wc W) => bz.trans (hb.mono bz.size)
        have hbw := fun W (hb : Below wc.heap.size wc W) => B6.out.trans ((hbz W hb).mono B6.out.size)
        have Hbw := Lib.hid hbw
        have hsa := fun W (hb : Below wc.heap.size wc W) => saves_any W (KXh.out.below (hbz W hb))
        have Hsa := Lib.hid hsa
        have hzm : lmay z.b z.t (z.L.map en) = true := by
          have hm := HK.out.2.2
          rw [← KXh.out.st] at hm
          exact (St.may_iff hm).1
        have hld := fun W (hb : Below wc.heap.size wc W) => load_any W (KXh.out.below (hbz W hb)) hzm
        have Hld := Lib.hid hld
        have hsm := fun W (hb : Below wc.heap.size wc W) (s' : Sv) (ok : Nat → Prop) (h1 : s'.At W ok) (h2 : s'.st = K.now) (h3 : s'.Fit) => sameS_yes s' sz W h1 (az.below hb) h3 fz (h2.trans ez.symm) (by rw [h2]; exact HK.out.2.2) (Htb.out _ (hbw W hb))
        have Hsm := Lib.hid hsm
        have hsu := fun W (hb : Below wc.heap.size wc W) => Hsure.out W (hbw W hb)
        have Hsu := Lib.hid hsu
        clear xz ez az fz bz hff hbz hbw hsa hzm hld hsm hsu
        go_upto_region 22 with (fail)
        refine wp_region_S 21 (fun W => Below wc.heap.size wc W) (.take 0 (.take 1 (.take 2 (.take 3 (.take 4 (.take 5 (.take 6 (.take 7 (.take 9 (.one 8 (.take 10 (.take 11 (.take 12 (.take 13 (.take 15 (.one 14 (.one 16 (.take 17 (.take 18 (.one 19 (.take 20 (.one 21 (.nil))))))))))))))))))))))) (by kernel_rfl) (Below.refl _ _).drew (fun _ _ _ _ h => h) (fun hS => ?_)
        repeat (first
          | (refine wpS_take (v := ?_) rfl rfl (by rfl) ?_ ?_; rotate_left; (intro W hW; have hf := FF.out W hW; go_split_ands; go_simp; try with_reducible rfl); try simp only [Act.put, List.setIfInBounds_toArray, List.set_cons_zero, List.set_cons_succ])
          | (refine wpS_skip rfl rfl (by rfl) ?_; try simp only [Act.put, List.setIfInBounds_toArray, List.set_cons_zero, List.set_cons_succ]))
        refine wpS_one rfl (by rfl) (fun K hK => ?_)
        go_simp
        go_at_call 8
        refine (Hsa.out _ hS).mono ?_
        rintro e w20 ⟨rfl, hw20⟩
        have hS20 : Below wc.heap.size wc w20 := by rw [hw20]; exact hS
        clear hw20
        have hf20 := fun W (hb : Below w20.heap.size w20 W) => FF.out W (hS20.trans (hb.mono hS20.size))
        have F20 := Lib.hid hf20
        clear hf20
        refine hK (fun W => Below w20.heap.size w20 W) _ _ (fun W h => hS20.trans (h.mono hS20.size)) (Below.refl _ _) ?_
        clear hK K
        try simp only [Act.put, List.setIfInBounds_toArray, List.set_cons_zero, List.set_cons_succ]
        repeat (first
          | (refine wpS_take (v := ?_) rfl rfl (by rfl) ?_ ?_; rotate_left; (intro W hW; have hf := F20.out W hW; go_split_ands; go_simp; try with_reducible rfl); try simp only [Act.put, List.setIfInBounds_toArray, List.set_cons_zero, List.set_cons_succ])
          | (refine wpS_skip rfl rfl (by rfl) ?_; try simp only [Act.put, List.setIfInBounds_toArray, List.set_cons_zero, List.set_cons_succ]))
        refine wpS_one rfl (by rfl) (fun K hK => ?_)
        go_simp
        go_at_call 9
        refine (Hld.out _ hS20).mono ?_
        rintro e w21 ⟨s21, rfl, a21, e21, f21, hb21⟩
        have hS21 : Below wc.heap.size wc w21 := hS20.trans (hb21.mono hS20.size)
        have A21 := Lib.hid (And.intro a21 (And.intro e21 f21))
        clear a21 e21 f21
        refine hK (fun W => Below w21.heap.size w21 W) _ _ (fun W h => hb21.trans (h.mono hb21.size)) (Below.refl _ _) ?_
        clear hK K
        try simp only [Act.put, List.setIfInBounds_toArray, List.set_cons_zero, List.set_cons_succ]
        refine wpS_one rfl (by rfl) (fun K hK => ?_)
        go_simp
        go_at_call 19
        refine (Hsm.out _ hS21 s21 _ A21.out.1 A21.out.2.1 A21.out.2.2).mono ?_
        rintro e w22 ⟨rfl, hb22⟩
        have hS22 : Below wc.heap.size wc w22 := hS21.trans (hb22.mono hS21.size)
        have hf22 := fun W (hb : Below w22.heap.size w22 W) => FF.out W (hS22.trans (hb.mono hS22.size))
        have F22 := Lib.hid hf22
        clear hf22
        refine hK (fun W => Below w22.heap.size w22 W) _ _ (fun W h => hb22.trans (h.mono hb22.size)) (Below.refl _ _) ?_
        clear hK K
        try simp only [Act.put, List.setIfInBounds_toArray, List.set_cons_zero, List.set_cons_succ]
        repeat (first
          | (refine wpS_take (v := ?_) rfl rfl (by rfl) ?_ ?_; rotate_left; (intro W hW; have hf := F22.out W hW; go_split_ands; go_simp; try with_reducible rfl); try simp only [Act.put, List.setIfInBounds_toArray, List.set_cons_zero, List.set_cons_succ])
          | (refine wpS_skip rfl rfl (by rfl) ?_; try simp only [Act.put, List.setIfInBounds_toArray, List.set_cons_zero, List.set_cons_succ]))
        refine wpS_one rfl (by rfl) (fun K hK => ?_)
        go_simp
        go_at_call 10
        refine (Hsu.out _ hS22).mono ?_
        rintro e w23 ⟨rfl, hb23⟩
        have hS23 : Below wc.heap.size wc w23 := hS22.trans (hb23.mono hS22.size)
        have hf23 := fun W (hb : Below w23.heap.size w23 W) => FF.out W (hS23.trans (hb.mono hS23.size))
        have F23 := Lib.hid hf23
        clear hf23
        refine hK (fun W => Below w23.heap.size w23 W) _ _ (fun W h => hb23.trans (h.mono hb23.size)) (Below.refl _ _) ?_
        clear hK K
        try simp only [Act.put, List.setIfInBounds_toArray, List.set_cons_zero, List.set_cons_succ]
        repeat (first
          | (refine wpS_take (v := ?_) rfl rfl (by rfl) ?_ ?_; rotate_left; (intro W hW; have hf := F23.out W hW; go_split_ands; go_simp; try with_reducible rfl); try simp only [Act.put, List.setIfInBounds_toArray, List.set_cons_zero, List.set_cons_succ])
          | (refine wpS_skip rfl rfl (by rfl) ?_; try simp only [Act.put, List.setIfInBounds_toArray, List.set_cons_zero, List.set_cons_succ]))
        refine wpS_last rfl (by rfl) (fun K hK => ?_)
        go_simp
        refine hK _ _ ?_
        clear hK K
        try simp only [Act.put, List.setIfInBounds_toArray, List.set_cons_zero, List.set_cons_succ]
        refine wpS_nil ?_
        have BF := Lib.hid (Hbw.out _ hS23)
        clear hS hS20 hS21 hS22 hS23 hb21 hb22 hb23 F20 F22 F23
        go_wp2_with fail
        go_ret
        exact ⟨rfl, BF.out⟩
end Go.Proofs.YtlecglmiigdjlaaGreatDoor
