/- Walk: a keeper is opened: stable.Open. (Printed by mkopen.py.) -/
import Derived.Test.YtlecglmiigdjlaaGreatDoorZb21
import Derived.Test.YtlecglmiigdjlaaGreatDoorZb25
namespace Go.Proofs.YtlecglmiigdjlaaGreatDoor
open Go.RowKit
set_option maxRecDepth 100000
set_option linter.unusedVariables false
set_option linter.unusedSimpArgs false
variable {fb : Nat}
def St0 (cf : List Int) : St := ⟨0, 0, 0, 0, [], cf, []⟩
/-- The keeper ahead of its choice. -/
def kpOf (sz : Nat) (D : Dk) : Kp :=
  ⟨⟨sz / 2, 0, (recs D.now 0 (sz / 2)).2.1, (recs D.now 0 (sz / 2)).1.length, 0⟩, ⟨sz, sz / 2, (recs D.now (sz / 2) sz).2.1, (recs D.now (sz / 2) sz).1.length, 0⟩, (sz / 2 : Nat) - 5, ((sz - sz / 2 : Nat) : Int) - 5, false, 0, St0 [], 0⟩
def lastR (l : List (List UInt8)) : List UInt8 := l.getD (l.length - 1) []
def openS (sz : Nat) (D : Dk) : Option Kp :=
  if (recs D.now 0 (sz / 2)).2.2 = true ∨ (recs D.now (sz / 2) sz).2.2 = true then none else chooseS (kpOf sz D) (lastR (recs D.now 0 (sz / 2)).1) (lastR (recs D.now (sz / 2) sz).1)
theorem idxA_0 (a b c d : Int) (W : World) : (Instr.index 81 (.agg #[.int .i64 a, .int .i64 b, .int .i64 c, .int .i64 d]) (.int .i64 0)).run Tryz.prog W = .ok (.agg #[.int .i64 a, .int .i64 b]) W := by kernel_rfl
theorem idxA_1 (a b c d : Int) (W : World) : (Instr.index 81 (.agg #[.int .i64 a, .int .i64 b, .int .i64 c, .int .i64 d]) (.int .i64 1)).run Tryz.prog W = .ok (.agg #[.int .i64 c, .int .i64 d]) W := by kernel_rfl
attribute [local go_sem] idxA_0 idxA_1
/-- Ahead of a tape's opening: the result, the keeper k, what was last in lb. -/
structure OW (w wr : World) (k lb : Nat) (cs ls : Array Value) : Prop where
  kb : Bx wr k cs
  lb_ : Bx wr lb ls
  be : Below w.heap.size w wr
  kl : w.heap.size ≤ k ∧ w.heap.size ≤ lb ∧ k ≠ lb
structure OT (wr : World) (L : Nat → Prop) (g : Nat) (D : Dk) (sz lb t : Nat) (T : Tp) (A : Option Addr) (m c : Nat) (l : List UInt8) : Prop where
  tx : TDX wr L t g T D sz
  rd : Rd wr (fun b => lb < b) 1 A m (bs l)
  cp : m ≤ c ∧ c ≤ maxLen
  lo : lb < t
theorem OT.below {wr W : World} {L : Nat → Prop} {g : Nat} {D : Dk} {sz lb t : Nat} {T : Tp} {A : Option Addr} {m c : Nat} {l : List UInt8} (h : OT wr L g D sz lb t T A m c l) (hb : Below wr.heap.size wr W) : OT W L g D sz lb t T A m c l := ⟨h.tx.below hb, h.rd.below hb, h.cp, h.lo⟩
theorem OT.set {wr : World} {L : Nat → Prop} {g : Nat} {D : Dk} {sz lb t : Nat} {T : Tp} {A : Option Addr} {m c : Nat} {l : List UInt8} (h : OT wr L g D sz lb t T A m c l) {p : Addr} (hp : p.block ≤ lb) (hl : ∀ b, L b → b < p.block) (v : Value) : OT (wr.setCell p v) L g D sz lb t T A m c l :=
  ⟨h.tx.keep (fun b hb => Below.heap_setCell _ _ _ b (fun e => hb.elim (fun h5 => by have := hl b h5; omega) (fun h5 => by have := h.lo; omega))) (by simp [World.setCell]), h.rd.setCell (by omega) _, h.cp, h.lo⟩
def TopP (W : World) (L : Nat → Prop) (g : Nat) (D : Dk) (sz fr en : Nat) (r : List (List UInt8) × Nat × Bool) (e : Ending) (w' : World) : Prop := Below W.heap.size W w' ∧
  ((r.2.2 = true ∧ e = .returned (.tuple #[.pointer none, .slice none 0 0, .iface 69 (.int .i64 14)])) ∨
  (r.2.2 = false ∧ ∃ tg A m c rows, e = .returned (.tuple #[.pointer (some ⟨tg, 0, none⟩), .slice A m c, .nilIface]) ∧ W.heap.size ≤ tg ∧ TDX w' L tg g ⟨en, fr, r.2.1, r.1.length, 0⟩ D sz ∧ BR w' (fun b => W.heap.size ≤ b ∧ b ≠ tg) A m rows ∧ rows.map Br.d = r.1 ∧ m ≤ c ∧ c ≤ maxLen))
theorem top_any {L : Nat → Prop} {g : Nat} {D : Dk} {sz : Nat} (fr n en : Nat) (w : World) (h : DX w L g D sz) (hen : fr + n = en) (h5 : 5 ≤ n) (hsz : en ≤ sz) (hz : sz ≤ 4194304) (hoff : D.off = false) :
    Calls Tryz.prog 20 #[.pointer (some ⟨g, 0, none⟩), .agg #[.int .i64 (fr : Nat), .int .i64 (n : Nat)]] w (TopP w L g D sz fr en (recs D.now fr en)) := by
  refine (open_any (fr : Nat) (n : Nat) w h (by unfold I64; omega) (by unfold I64; omega)).mono ?_
  intro e w' hp
  obtain ⟨hb, hp⟩ := hp
  rw [Int.toNat_natCast, Int.toNat_natCast, hen] at hp
  have hnb : ¬ BadArea sz (fr : Nat) (n : Nat) := by unfold BadArea; omega
  refine ⟨hb, ?_⟩
  rcases hp with ⟨h1, _⟩ | ⟨_, h1, _⟩ | ⟨_, _, h1, h2⟩ | ⟨_, _, h1, h2⟩
  · exact absurd h1 hnb
  · rw [hoff] at h1; cases h1
  · exact .inl ⟨h1, h2⟩
  · exact .inr ⟨h1, h2⟩
def OpnP (fb : Nat) (W : World) (L : Nat → Prop) (g : Nat) (D : Dk) (sz : Nat) (cf : List Int) (e : Ending) (w' : World) : Prop :=
  (openS sz D = none ∧ e = .returned (.tuple #[.pointer none, .iface 69 (.int .i64 14)]) ∧ Below W.heap.size W w') ∨
  (∃ K k t0 t1 z, openS sz D = some K ∧ 0 < K.n ∧ e = .returned (.tuple #[.pointer (some ⟨k, 0, none⟩), .nilIface]) ∧ KX fb w' L k g t0 t1 K z D sz ∧ W.heap.size ≤ k ∧ W.heap.size ≤ t0 ∧ W.heap.size ≤ t1 ∧ Below W.heap.size W w') ∨
  (∃ K k t0 t1 z L', openS sz D = some K ∧ K.n = 0 ∧ (K.lay D (St0 cf)).2.2 = 0 ∧ e = .returned (.tuple #[.pointer (some ⟨k, 0, none⟩), .nilIface]) ∧ KX fb w' L' k g t0 t1 (K.lay D (St0 cf)).1 z (K.lay D (St0 cf)).2.1 sz ∧ (∀ b, L' b → L b ∨ W.heap.size ≤ b) ∧ W.heap.size ≤ k ∧ W.heap.size ≤ t0 ∧ W.heap.size ≤ t1 ∧ Kept L W w') ∨
  (∃ K, openS sz D = some K ∧ K.n = 0 ∧ (K.lay D (St0 cf)).2.2 ≠ 0 ∧ e = .returned (.tuple #[.pointer none, .iface 69 (.int .i64 (K.lay D (St0 cf)).2.2)]))
section
variable {L : Nat → Prop} {g : Nat} {D : Dk} {sz : Nat}
set_option maxHeartbeats 6400000 in
theorem kopen_no (A : Option Addr) (n c : Nat) (cf : List Int) (w : World) {ok : Nat → Prop} (hr : Rd w ok 1 A n (ii cf)) (hn : n ≤ 1000000) (hm : cmay cf = false) (hg : True) :
    Calls Tryz.prog 12 #[.pointer (some ⟨g, 0, none⟩), .slice A n c] w (fun e w' => e = .returned (.tuple #[.pointer none, .iface 69 (.int .i64 1)]) ∧ Below w.heap.size w w') := by
  have hck := chk_any A n c cf w hr hn
  rw [hm] at hck
  have Hck := Lib.hid hck
  clear hck hr
  go_enter Tryz.func12, Tryz.ntmps12
  go_wp2_with fail
  refine Hck.out.mono ?_
  rintro e w1 ⟨rfl, hw⟩
  subst hw
  rw [if_neg (by decide)]
  go_wp2_with fail
  go_ret2
  exact ⟨rfl, Below.refl _ _⟩
set_option maxHeartbeats 6400000 in
theorem kopen_any (A : Option Addr) (n c : Nat) (cf : List Int) (w : World) (h : DX w L g D sz) (hr : Rd w (fun b => ¬ L b) 1 A n (ii cf)) (hn : n ≤ c ∧ c ≤ maxLen) (hm : cmay cf = true) (hsz : 20 ≤ sz) (hoff : D.off = false) (hq : D.q.length ≤ 900000) (htab : TabW w) (hev : EvW w w.heap.size) (hfl : fb < w.heap.size) :
    Calls Tryz.prog 12 #[.pointer (some ⟨g, 0, none⟩), .slice A n c] w (OpnP fb w L g D sz cf) := by
  have Hfl := Lib.hid hfl
  clear hfl
  have hz2 := h.z2
  have hnl : cf.length = n := ii_len hr
  have hn7 := (cmay_small hm).2.1
  have hck := chk_any A n c cf w hr (by omega)
  rw [hm] at hck
  have hs1 := fun W (hb : Below w.heap.size w W) => size_any W (h.below hb)
  have wq : ((sz : Nat) : Int) / 2 = (sz / 2 : Nat) := by omega
  have hdv : ((sz : Nat) : Int).tdiv 2 = (sz / 2 : Nat) := rfl
  have wh : IntKind.i64.wrap ((sz / 2 : Nat) : Int) = (sz / 2 : Nat) := by rw [IntKind.wrap_i64]; omega
  obtain ⟨hf, hhf⟩ : ∃ hf, hf = sz / 2 := ⟨_, rfl⟩
  have hfb : 10 ≤ hf ∧ hf ≤ 4194304 ∧ hf ≤ sz := by omega
  rw [← hhf] at wq hdv wh
  have wd : IntKind.i64.wrap (((sz : Nat) : Int) - (hf : Nat)) = ((sz - hf : Nat) : Int) := by rw [IntKind.wrap_i64]; omega
  have we : ((sz : Nat) : Int) - (hf : Nat) = ((sz - hf : Nat) : Int) := by omega
  have Hck := Lib.hid hck
  have Hs1 := Lib.hid hs1
  have Hhf := Lib.hid hhf
  have B := Lib.hid (And.intro h (And.intro hr (And.intro hn (And.intro hm (And.intro hoff (And.intro hq (And.intro htab hev)))))))
  clear hck hs1 hhf h hr hm hoff hq htab hev
  go_enter Tryz.func12, Tryz.ntmps12
  go_wp2_with fail
  refine Hck.out.mono ?_
  rintro e w1 ⟨rfl, hw⟩
  subst hw
  rw [if_pos (by trivial)]
  go_wp2_with fail
  refine (Hs1.out w (Below.refl _ _)).mono ?_
  rintro e w2 ⟨rfl, hw⟩
  have hw2 := hw.symm
  clear hw
  subst hw2
  go_wp2_with fail
  refine (Hs1.out w (Below.refl _ _)).mono ?_
  rintro e w2 ⟨rfl, hw⟩
  have hw2 := hw.symm
  clear hw
  subst hw2
  obtain ⟨W3, hW3⟩ : ∃ W3, W3 = ((w.alloc (.cells #[.int .i64 0, .int .i64 (hf : Nat), .int .i64 (hf : Nat), .int .i64 ((sz - hf : Nat) : Int)] 81)).alloc (.cells #[.pointer none, .pointer none, .int .i64 0, .int .i64 0, .int .i64 0, .int .i64 0, .int .i64 0, .int .i64 0, .int .i64 0, .int .i64 0, .slice none 0 0, .slice none 0 0, .slice none 0 0, .nilIface] 75)).alloc (.cells #[.slice none 0 0, .slice none 0 0] 82) := ⟨_, rfl⟩
  have ba : Bx W3 w.heap.size #[.int .i64 0, .int .i64 (hf : Nat), .int .i64 (hf : Nat), .int .i64 ((sz - hf : Nat) : Int)] := by subst hW3; exact ((Bx.new _ _ _ rfl).alloc _).alloc _
  have bk : Bx W3 (w.heap.size + 1) #[.pointer none, .pointer none, .int .i64 0, .int .i64 0, .int .i64 0, .int .i64 0, .int .i64 0, .int .i64 0, .int .i64 0, .int .i64 0, .slice none 0 0, .slice none 0 0, .slice none 0 0, .nilIface] := by subst hW3; exact (Bx.new _ _ _ (by simp)).alloc _
  have bl : Bx W3 (w.heap.size + 1 + 1) #[.slice none 0 0, .slice none 0 0] := by subst hW3; exact Bx.new _ _ _ (by simp)
  have hb3 : Below w.heap.size w W3 := by subst hW3; exact (((Below.refl _ _).alloc (Nat.le_refl _) _).alloc (by simp) _).alloc (by simp; omega) _
  have hz3 : w.heap.size + 3 ≤ W3.heap.size := by subst hW3; simp
  have hLw : ∀ b, L b → b < w.heap.size := B.out.1.lt
  have ho0 : ∀ W, Below w.heap.size w W → Calls Tryz.prog 20 #[.pointer (some ⟨g, 0, none⟩), .agg #[.int .i64 0, .int .i64 (hf : Nat)]] W (TopP W L g D sz 0 hf (recs D.now 0 hf)) := fun W hb => top_any 0 hf hf W (B.out.1.below hb) (by omega) (by omega) (by omega) hz2 B.out.2.2.2.2.1
  have ho1 : ∀ W, Below w.heap.size w W → Calls Tryz.prog 20 #[.pointer (some ⟨g, 0, none⟩), .agg #[.int .i64 (hf : Nat), .int .i64 ((sz - hf : Nat) : Int)]] W (TopP W L g D sz hf sz (recs D.now hf sz)) := fun W hb => top_any hf (sz - hf) sz W (B.out.1.below hb) (by omega) (by omega) (by omega) hz2 B.out.2.2.2.2.1
  have w5a : IntKind.i64.wrap (((hf : Nat) : Int) - 5) = ((hf - 5 : Nat) : Int) := by rw [IntKind.wrap_i64]; omega
  have w5b : IntKind.i64.wrap (((sz - hf : Nat) : Int) - 5) = ((sz - hf - 5 : Nat) : Int) := by rw [IntKind.wrap_i64]; omega
  obtain ⟨y0, y1, y2, y3, -⟩ := ba.c4
  have W3h := Lib.hid (And.intro bk (And.intro bl (And.intro hb3 (And.intro hz3 hLw))))
  have Ho0 := Lib.hid ho0
  have Ho1 := Lib.hid ho1
  go_upto_region 7 with (fail)
  rw [← hW3]
  clear hW3 ba bk bl hb3 hz3 hLw ho0 ho1
  go_wp2_with fail
  obtain ⟨k, hk⟩ : ∃ k, k = w.heap.size + 1 := ⟨_, rfl⟩
  obtain ⟨lb, hlb⟩ : ∃ lb, lb = w.heap.size + 1 + 1 := ⟨_, rfl⟩
  have KL := Lib.hid (And.intro hk hlb)
  rw [← hlb, ← hk]
  clear hk hlb y0 y1 y2 y3
  go_loopg [10, 11, 12, 13, 14, 40] 2 (fun c s10 s11 s12 s13 s14 s40 wr => ∃ j : Nat, c = 2 - j ∧ j ≤ 2 ∧ s40 = .int .i64 j ∧ Below w.heap.size w wr ∧ lb < wr.heap.size ∧
    (j = 0 → Bx wr k #[.pointer none, .pointer none, .int .i64 0, .int .i64 0, .int .i64 0, .int .i64 0, .int .i64 0, .int .i64 0, .int .i64 0, .int .i64 0, .slice none 0 0, .slice none 0 0, .slice none 0 0, .nilIface] ∧ Bx wr lb #[.slice none 0 0, .slice none 0 0]) ∧
    (j = 1 → (recs D.now 0 hf).2.2 = false ∧ ∃ t0 A0 m0 c0, OT wr L g D sz lb t0 ⟨hf, 0, (recs D.now 0 hf).2.1, (recs D.now 0 hf).1.length, 0⟩ A0 m0 c0 (lastR (recs D.now 0 hf).1) ∧ Bx wr k #[.pointer (some ⟨t0, 0, none⟩), .pointer none, .int .i64 ((hf - 5 : Nat) : Int), .int .i64 0, .int .i64 0, .int .i64 0, .int .i64 0, .int .i64 0, .int .i64 0, .int .i64 0, .slice none 0 0, .slice none 0 0, .slice none 0 0, .nilIface] ∧ Bx wr lb #[.slice A0 m0 c0, .slice none 0 0]) ∧
    (j = 2 → (recs D.now 0 hf).2.2 = false ∧ (recs D.now hf sz).2.2 = false ∧ ∃ t0 A0 m0 c0 t1 A1 m1 c1, t0 ≠ t1 ∧ OT wr L g D sz lb t0 ⟨hf, 0, (recs D.now 0 hf).2.1, (recs D.now 0 hf).1.length, 0⟩ A0 m0 c0 (lastR (recs D.now 0 hf).1) ∧ OT wr L g D sz lb t1 ⟨sz, hf, (recs D.now hf sz).2.1, (recs D.now hf sz).1.length, 0⟩ A1 m1 c1 (lastR (recs D.now hf sz).1) ∧ Bx wr k #[.pointer (some ⟨t0, 0, none⟩), .pointer (some ⟨t1, 0, none⟩), .int .i64 ((hf - 5 : Nat) : Int), .int .i64 ((sz - hf - 5 : Nat) : Int), .int .i64 0, .int .i64 0, .int .i64 0, .int .i64 0, .int .i64 0, .int .i64 0, .slice none 0 0, .slice none 0 0, .slice none 0 0, .nilIface] ∧ Bx wr lb #[.slice A0 m0 c0, .slice A1 m1 c1]))
  case atStart => exact ⟨0, by omega, by omega, rfl, W3h.out.2.2.1, by have := KL.out; have := W3h.out.2.2.2.1; omega, fun _ => ⟨by rw [KL.out.1]; exact W3h.out.1, by rw [KL.out.2]; exact W3h.out.2.1⟩, fun h => by omega, fun h => by omega⟩
  case round =>
    obtain ⟨j, hc, hj, rfl, hbe, hlbs, hj0, hj1, hj2⟩ := hrel
    have Hc := Lib.hid hc
    have Hbe := Lib.hid (And.intro hbe hlbs)
    clear hc hbe hlbs
    by_cases hlt : j < 2
    · have hcs : j = 0 ∨ j = 1 := by omega
      rcases hcs with rfl | rfl
      · obtain ⟨bk, bl⟩ := hj0 rfl
        clear hj0 hj1 hj2
        have hal : Below wr.heap.size wr (wr.alloc (.cells #[.int .i64 0, .int .i64 (hf : Nat)] 61)) := (Below.refl _ _).alloc (Nat.le_refl _) _
        have ba : Bx (wr.alloc (.cells #[.int .i64 0, .int .i64 (hf : Nat)] 61)) wr.heap.size #[.int .i64 0, .int .i64 (hf : Nat)] := Bx.new _ _ _ rfl
        have hop := Ho0.out _ (Hbe.out.1.trans (hal.mono Hbe.out.1.size))
        have Hop := Lib.hid hop
        have BK := Lib.hid (And.intro bk bl)
        have BA0 := Lib.hid ba
        clear hop bk bl ba
        go_wp2_with fail
        refine Hop.out.mono ?_
        intro e w5 hp
        obtain ⟨hb5, hp⟩ := hp
        have hb05 : Below wr.heap.size wr w5 := hal.trans (hb5.mono (by simp))
        rcases hp with ⟨hh, rfl⟩ | ⟨hh, tg, A', mm, cc, rows, rfl, htg, htx, hbr, hrm, hmc, hcm⟩
        · have hno : openS sz D = none := by unfold openS; rw [← Hhf.out, if_pos (.inl hh)]
          have HN := Lib.hid (And.intro hno (Hbe.out.1.trans (hb05.mono Hbe.out.1.size)))
          clear hno hh hb05 hb5 hal
          go_wp2_with fail
          go_ret2
          exact .inl ⟨HN.out.1, rfl, HN.out.2⟩
        · have ba := BA0.out.below hb5
          have bk := BK.out.1.below hb05
          have bl := BK.out.2.below hb05
          have hml : rows.length = mm := hbr.1.flen brcell_len (by omega)
          have hrl : (recs D.now 0 hf).1.length = mm := by rw [← hrm, List.length_map]; exact hml
          have hkl : (⟨k, 0, none⟩ : Addr).block ≤ lb := by have := KL.out; show k ≤ lb; omega
          have hLk : ∀ b, L b → b < k := fun b hb => by have := W3h.out.2.2.2.2 b hb; have := KL.out; omega
          have hLl : ∀ b, L b → b < lb := fun b hb => by have := W3h.out.2.2.2.2 b hb; have := KL.out; omega
          have hlbw := Hbe.out.2
          have htgl : lb < tg := by simp at htg; omega
          have BA := Lib.hid ba
          have FB : ∀ W, Bx W wr.heap.size #[.int .i64 0, .int .i64 (hf : Nat)] → W.cell? ⟨wr.heap.size, 1, none⟩ = some (.int .i64 (hf : Nat)) := fun W h => h.c 1
          have FF := Lib.hid FB
          have hka : wr.heap.size ≠ k := by have := KL.out; omega
          have kc0 := bk.c 0
          have kc2 := bk.c 2
          have kf0 := bk.f 0
          have kf2 := bk.f 2
          have Hb05 := Lib.hid hb05
          have HH := Lib.hid hh
          have R := Lib.hid (And.intro htx (And.intro hbr (And.intro hrm (And.intro hmc (And.intro hcm (And.intro hml (And.intro hrl (And.intro bk bl))))))))
          clear ba bl FB hh htx hbr hrm hmc hcm hml hrl htg hb05 hb5 hal bk
          go_upto_region 13 with (fail)
          refine wp_region_S 15 (fun W => Bx W wr.heap.size #[.int .i64 0, .int .i64 (hf : Nat)]) (.take 0 (.take 1 (.take 2 (.take 3 (.take 4 (.take 5 (.take 6 (.take 7 (.take 8 (.take 9 (.take 10 (.take 12 (.take 13 (.one 11 (.take 14 (.one 15 (.nil))))))))))))))))) (by kernel_rfl) BA.out.drew (fun _ _ _ _ h => h) (fun hS => ?_)
          repeat (first
            | (refine wpS_take (v := ?_) rfl rfl (by rfl) ?_ ?_; rotate_left; (intro W hW; have hf := FF.out W hW; go_split_ands; go_simp; try with_reducible rfl); try simp only [Act.put, List.setIfInBounds_toArray, List.set_cons_zero, List.set_cons_succ])
            | (refine wpS_skip rfl rfl (by rfl) ?_; try simp only [Act.put, List.setIfInBounds_toArray, List.set_cons_zero, List.set_cons_succ]))
          refine wpS_one rfl (by rfl) (fun K hK => ?_)
          go_simp
          refine hK (fun W => Bx W wr.heap.size #[.int .i64 0, .int .i64 (hf : Nat)]) _ _ (fun _ h => h) ((BA.out.far hka _).drew) ?_
          clear hK K
          try simp only [Act.put, List.setIfInBounds_toArray, List.set_cons_zero, List.set_cons_succ]
          repeat (first
            | (refine wpS_take (v := ?_) rfl rfl (by rfl) ?_ ?_; rotate_left; (intro W hW; have hf := FF.out W hW; go_split_ands; go_simp; try with_reducible rfl); try simp only [Act.put, List.setIfInBounds_toArray, List.set_cons_zero, List.set_cons_succ])
            | (refine wpS_skip rfl rfl (by rfl) ?_; try simp only [Act.put, List.setIfInBounds_toArray, List.set_cons_zero, List.set_cons_succ]))
          refine wpS_last rfl (by rfl) (fun K hK => ?_)
          go_simp
          refine hK _ _ ?_
          clear hK K
          try simp only [Act.put, List.setIfInBounds_toArray, List.set_cons_zero, List.set_cons_succ]
          refine wpS_nil ?_
          obtain ⟨W6, hW6⟩ : ∃ W6, W6 = ((w5.setCell ⟨k, 0, none⟩ (.pointer (some ⟨tg, 0, none⟩))).setCell ⟨k, 2, none⟩ (.int .i64 ((hf - 5 : Nat) : Int))).drew := ⟨_, rfl⟩
          have x6 : Bx W6 k #[.pointer (some ⟨tg, 0, none⟩), .pointer none, .int .i64 ((hf - 5 : Nat) : Int), .int .i64 0, .int .i64 0, .int .i64 0, .int .i64 0, .int .i64 0, .int .i64 0, .int .i64 0, .slice none 0 0, .slice none 0 0, .slice none 0 0, .nilIface] := by rw [hW6]; exact ((R.out.2.2.2.2.2.2.2.1.set 0 _).set 2 _).drew
          have l6 : Bx W6 lb #[.slice none 0 0, .slice none 0 0] := by
            have hlk : lb ≠ k := by have := KL.out; omega
            rw [hW6]
            exact ((R.out.2.2.2.2.2.2.2.2.far hlk _).far hlk _).drew
          have b6 : Below w.heap.size w W6 := by
            have hwk : w.heap.size ≤ k := by have := KL.out; omega
            rw [hW6]
            exact (((Hbe.out.1.trans (Hb05.out.mono Hbe.out.1.size)).setCell (by show w.heap.size ≤ k; omega) _).setCell (by show w.heap.size ≤ k; omega) _).drew
          have t6 : ∀ (A : Option Addr) (m c : Nat) (l : List UInt8), Rd w5 (fun b => lb < b) 1 A m (bs l) → m ≤ c → c ≤ maxLen → OT W6 L g D sz lb tg ⟨hf, 0, (recs D.now 0 hf).2.1, (recs D.now 0 hf).1.length, 0⟩ A m c l := fun A m c l h1 h2 h3 => by
            rw [hW6]
            exact ((((⟨R.out.1, h1, ⟨h2, h3⟩, htgl⟩ : OT w5 L g D sz lb tg ⟨hf, 0, (recs D.now 0 hf).2.1, (recs D.now 0 hf).1.length, 0⟩ A m c l).set (p := ⟨k, 0, none⟩) hkl hLk _).set (p := ⟨k, 2, none⟩) hkl hLk _).below (Below.refl _ _).drew)
          have s6 : lb < W6.heap.size := by
            have h1 : W6.heap.size = w5.heap.size := by rw [hW6]; simp [World.setCell, World.drew]
            have h2 := Hb05.out.size
            omega
          have r6 : BR W6 (fun b => lb < b ∧ b ≠ k) A' mm rows := by
            have hbr := R.out.2.1
            have hq : ∀ b, ((wr.alloc (.cells #[.int .i64 0, .int .i64 (hf : Nat)] 61)).heap.size ≤ b ∧ b ≠ tg) → lb < b ∧ b ≠ k := fun b hb => by have h1 := hb.1; simp at h1; have := KL.out; omega
            have hs : ∀ {n2 sz2 : Nat} {A2 : Option Addr} {xs : List Value}, Rd w5 (fun b => lb < b ∧ b ≠ k) sz2 A2 n2 xs → Rd W6 (fun b => lb < b ∧ b ≠ k) sz2 A2 n2 xs := fun h => by
              rw [hW6]
              exact ((h.setCell (p := ⟨k, 0, none⟩) (fun h => h.2 rfl) _).setCell (p := ⟨k, 2, none⟩) (fun h => h.2 rfl) _).drew
            exact ⟨hs (hbr.1.mono hq), fun x hx => ⟨hs ((hbr.2 x hx).1.mono hq), (hbr.2 x hx).2⟩⟩
          rw [← hW6]
          have KR := Lib.hid (And.intro b6 s6)
          have X6 := Lib.hid (And.intro x6 (And.intro l6 (And.intro t6 r6)))
          clear hW6 x6 b6 s6 t6 r6 hS kc0 kc2 kf0 kf2
          by_cases hm0 : mm = 0
          · have hmd : decide ((0 : Int) < (mm : Nat)) = false := decide_eq_false (by omega)
            have hmd2 : decide (0 < mm) = false := decide_eq_false (by omega)
            have hla : lastR (recs D.now 0 hf).1 = [] := by
              have h1 := R.out.2.2.2.2.2.2.1
              have h2 : (recs D.now 0 hf).1 = [] := List.eq_nil_of_length_eq_zero (by omega)
              unfold lastR
              rw [h2]
              rfl
            have HLA := Lib.hid hla
            clear hla l6
            go_wp2_with fail
            go_roundg (2 - (0 + 1))
            case measure => have := Hc.out; omega
            case rel => exact ⟨1, rfl, by omega, by go_num, KR.out.1, KR.out.2, fun h => by omega, fun _ => ⟨HH.out, tg, none, 0, 0, by rw [HLA.out]; exact X6.out.2.2.1 none 0 0 [] Rd.none_ (Nat.le_refl _) (Nat.zero_le _), X6.out.1, X6.out.2.1⟩, fun h => by omega⟩
          · have hmd : decide ((0 : Int) < (mm : Nat)) = true := decide_eq_true (by omega)
            have hmd2 : decide (0 < mm) = true := decide_eq_true (by omega)
            obtain ⟨q, hq⟩ : ∃ q, mm = q + 1 := ⟨mm - 1, by omega⟩
            subst hq
            obtain ⟨b, o, x, rfl, -, -, hx, cx⟩ := br_cells (j := q) X6.out.2.2.2.1 (by omega)
            have hxr := X6.out.2.2.2.2 x (List.mem_of_getElem? hx)
            have hla : lastR (recs D.now 0 hf).1 = x.d := by
              unfold lastR
              rw [R.out.2.2.2.2.2.2.1, ← R.out.2.2.1, List.getD_eq_getElem?_getD, List.getElem?_map, show q + 1 - 1 = q from rfl, hx]
              rfl
            have wq1 : IntKind.i64.wrap (((q + 1 : Nat) : Int) - 1) = (q : Nat) := by rw [IntKind.wrap_i64]; have := R.out.2.2.2.2.1; have h2 := R.out.2.2.2.1; unfold maxLen at this; omega
            have hqb : q < 9223372036854775807 := by have := R.out.2.2.2.2.1; have h2 := R.out.2.2.2.1; unfold maxLen at this; omega
            have wq2 : IntKind.i64.wrap ((q : Nat) : Int) = (q : Nat) := by rw [IntKind.wrap_i64]; omega
            have hq0 : (0 : Int) ≤ (q : Nat) := by omega
            clear hqb
            have lc0 := l6.c 0
            have lf0 := l6.f 0
            have hxm := List.mem_of_getElem? hx
            have HLA := Lib.hid (And.intro hla (And.intro hxr hxm))
            clear hla hxr hx hxm
            go_wp2_with fail
            obtain ⟨W7, hW7⟩ : ∃ W7, W7 = W6.setCell ⟨lb, 0, none⟩ (.slice x.A x.n x.m) := ⟨_, rfl⟩
            have hkl7 : k ≠ lb := by have := KL.out; omega
            have x7 := X6.out.1.far (p := ⟨lb, 0, none⟩) hkl7 (.slice x.A x.n x.m)
            have l7 := X6.out.2.1.set 0 (.slice x.A x.n x.m)
            have b7 : Below w.heap.size w W7 := by
              have := KL.out
              rw [hW7]
              exact KR.out.1.setCell (by show w.heap.size ≤ lb; omega) _
            have s7 : lb < W7.heap.size := by
              rw [hW7]
              simp [World.setCell]
              exact KR.out.2
            have t7 : OT W7 L g D sz lb tg ⟨hf, 0, (recs D.now 0 hf).2.1, (recs D.now 0 hf).1.length, 0⟩ x.A x.n x.m (lastR (recs D.now 0 hf).1) := by
              have h1 := (R.out.2.1.2 x HLA.out.2.2)
              rw [HLA.out.1, hW7]
              refine (X6.out.2.2.1 x.A x.n x.m x.d (h1.1.mono fun b hb => ?_) h1.2.1 h1.2.2).set (p := ⟨lb, 0, none⟩) (Nat.le_refl _) hLl _
              have h2 := hb.1
              simp at h2
              omega
            rw [← hW7] at x7 l7 ⊢
            have F7 := Lib.hid (And.intro x7 (And.intro l7 (And.intro b7 (And.intro s7 t7))))
            clear x7 l7 b7 s7 t7 hW7
            go_roundg (2 - (0 + 1))
            case measure => have := Hc.out; omega
            case rel => exact ⟨1, rfl, by omega, by go_num, F7.out.2.2.1, F7.out.2.2.2.1, fun h => by omega, fun _ => ⟨HH.out, tg, x.A, x.n, x.m, F7.out.2.2.2.2, F7.out.1, F7.out.2.1⟩, fun h => by omega⟩
      · obtain ⟨hh0, t0, A0, m0, c0, ot0, bk, bl⟩ := hj1 rfl
        have OT0 := Lib.hid (And.intro hh0 ot0)
        clear ot0 hh0
        clear hj0 hj1 hj2
        have hal : Below wr.heap.size wr (wr.alloc (.cells #[.int .i64 (hf : Nat), .int .i64 ((sz - hf : Nat) : Int)] 61)) := (Below.refl _ _).alloc (Nat.le_refl _) _
        have ba : Bx (wr.alloc (.cells #[.int .i64 (hf : Nat), .int .i64 ((sz - hf : Nat) : Int)] 61)) wr.heap.size #[.int .i64 (hf : Nat), .int .i64 ((sz - hf : Nat) : Int)] := Bx.new _ _ _ rfl
        have hop := Ho1.out _ (Hbe.out.1.trans (hal.mono Hbe.out.1.size))
        have Hop := Lib.hid hop
        have BK := Lib.hid (And.intro bk bl)
        have BA0 := Lib.hid ba
        clear hop bk bl ba
        go_wp2_with fail
        refine Hop.out.mono ?_
        intro e w5 hp
        obtain ⟨hb5, hp⟩ := hp
        have hb05 : Below wr.heap.size wr w5 := hal.trans (hb5.mono (by simp))
        rcases hp with ⟨hh, rfl⟩ | ⟨hh, tg, A', mm, cc, rows, rfl, htg, htx, hbr, hrm, hmc, hcm⟩
        · have hno : openS sz D = none := by unfold openS; rw [← Hhf.out, if_pos (.inr hh)]
          have HN := Lib.hid (And.intro hno (Hbe.out.1.trans (hb05.mono Hbe.out.1.size)))
          clear hno hh hb05 hb5 hal
          go_wp2_with fail
          go_ret2
          exact .inl ⟨HN.out.1, rfl, HN.out.2⟩
        · have ba := BA0.out.below hb5
          have bk := BK.out.1.below hb05
          have bl := BK.out.2.below hb05
          have hml : rows.length = mm := hbr.1.flen brcell_len (by omega)
          have hrl : (recs D.now hf sz).1.length = mm := by rw [← hrm, List.length_map]; exact hml
          have hkl : (⟨k, 0, none⟩ : Addr).block ≤ lb := by have := KL.out; show k ≤ lb; omega
          have hLk : ∀ b, L b → b < k := fun b hb => by have := W3h.out.2.2.2.2 b hb; have := KL.out; omega
          have hLl : ∀ b, L b → b < lb := fun b hb => by have := W3h.out.2.2.2.2 b hb; have := KL.out; omega
          have hlbw := Hbe.out.2
          have htgl : lb < tg := by simp at htg; omega
          have hne : t0 ≠ tg := fun e => by have := OT0.out.2.tx.lt; simp at htg; omega
          have NE := Lib.hid hne
          clear hne
          have BA := Lib.hid ba
          have FB : ∀ W, Bx W wr.heap.size #[.int .i64 (hf : Nat), .int .i64 ((sz - hf : Nat) : Int)] → W.cell? ⟨wr.heap.size, 1, none⟩ = some (.int .i64 ((sz - hf : Nat) : Int)) := fun W h => h.c 1
          have FF := Lib.hid FB
          have hka : wr.heap.size ≠ k := by have := KL.out; omega
          have kc1 := bk.c 1
          have kc3 := bk.c 3
          have kf1 := bk.f 1
          have kf3 := bk.f 3
          have Hb05 := Lib.hid hb05
          have HH := Lib.hid hh
          have R := Lib.hid (And.intro htx (And.intro hbr (And.intro hrm (And.intro hmc (And.intro hcm (And.intro hml (And.intro hrl (And.intro bk bl))))))))
          clear ba bl FB hh htx hbr hrm hmc hcm hml hrl htg hb05 hb5 hal bk
          go_upto_region 13 with (fail)
          refine wp_region_S 15 (fun W => Bx W wr.heap.size #[.int .i64 (hf : Nat), .int .i64 ((sz - hf : Nat) : Int)]) (.take 0 (.take 1 (.take 2 (.take 3 (.take 4 (.take 5 (.take 6 (.take 7 (.take 8 (.take 9 (.take 10 (.take 12 (.take 13 (.one 11 (.take 14 (.one 15 (.nil))))))))))))))))) (by kernel_rfl) BA.out.drew (fun _ _ _ _ h => h) (fun hS => ?_)
          repeat (first
            | (refine wpS_take (v := ?_) rfl rfl (by rfl) ?_ ?_; rotate_left; (intro W hW; have hf := FF.out W hW; go_split_ands; go_simp; try with_reducible rfl); try simp only [Act.put, List.setIfInBounds_toArray, List.set_cons_zero, List.set_cons_succ])
            | (refine wpS_skip rfl rfl (by rfl) ?_; try simp only [Act.put, List.setIfInBounds_toArray, List.set_cons_zero, List.set_cons_succ]))
          refine wpS_one rfl (by rfl) (fun K hK => ?_)
          go_simp
          refine hK (fun W => Bx W wr.heap.size #[.int .i64 (hf : Nat), .int .i64 ((sz - hf : Nat) : Int)]) _ _ (fun _ h => h) ((BA.out.far hka _).drew) ?_
          clear hK K
          try simp only [Act.put, List.setIfInBounds_toArray, List.set_cons_zero, List.set_cons_succ]
          repeat (first
            | (refine wpS_take (v := ?_) rfl rfl (by rfl) ?_ ?_; rotate_left; (intro W hW; have hf := FF.out W hW; go_split_ands; go_simp; try with_reducible rfl); try simp only [Act.put, List.setIfInBounds_toArray, List.set_cons_zero, List.set_cons_succ])
            | (refine wpS_skip rfl rfl (by rfl) ?_; try simp only [Act.put, List.setIfInBounds_toArray, List.set_cons_zero, List.set_cons_succ]))
          refine wpS_last rfl (by rfl) (fun K hK => ?_)
          go_simp
          refine hK _ _ ?_
          clear hK K
          try simp only [Act.put, List.setIfInBounds_toArray, List.set_cons_zero, List.set_cons_succ]
          refine wpS_nil ?_
          obtain ⟨W6, hW6⟩ : ∃ W6, W6 = ((w5.setCell ⟨k, 1, none⟩ (.pointer (some ⟨tg, 0, none⟩))).setCell ⟨k, 3, none⟩ (.int .i64 ((sz - hf - 5 : Nat) : Int))).drew := ⟨_, rfl⟩
          have x6 : Bx W6 k #[.pointer (some ⟨t0, 0, none⟩), .pointer (some ⟨tg, 0, none⟩), .int .i64 ((hf - 5 : Nat) : Int), .int .i64 ((sz - hf - 5 : Nat) : Int), .int .i64 0, .int .i64 0, .int .i64 0, .int .i64 0, .int .i64 0, .int .i64 0, .slice none 0 0, .slice none 0 0, .slice none 0 0, .nilIface] := by rw [hW6]; exact ((R.out.2.2.2.2.2.2.2.1.set 1 _).set 3 _).drew
          have l6 : Bx W6 lb #[.slice A0 m0 c0, .slice none 0 0] := by
            have hlk : lb ≠ k := by have := KL.out; omega
            rw [hW6]
            exact ((R.out.2.2.2.2.2.2.2.2.far hlk _).far hlk _).drew
          have b6 : Below w.heap.size w W6 := by
            have hwk : w.heap.size ≤ k := by have := KL.out; omega
            rw [hW6]
            exact (((Hbe.out.1.trans (Hb05.out.mono Hbe.out.1.size)).setCell (by show w.heap.size ≤ k; omega) _).setCell (by show w.heap.size ≤ k; omega) _).drew
          have t6 : ∀ (A : Option Addr) (m c : Nat) (l : List UInt8), Rd w5 (fun b => lb < b) 1 A m (bs l) → m ≤ c → c ≤ maxLen → OT W6 L g D sz lb tg ⟨sz, hf, (recs D.now hf sz).2.1, (recs D.now hf sz).1.length, 0⟩ A m c l := fun A m c l h1 h2 h3 => by
            rw [hW6]
            exact ((((⟨R.out.1, h1, ⟨h2, h3⟩, htgl⟩ : OT w5 L g D sz lb tg ⟨sz, hf, (recs D.now hf sz).2.1, (recs D.now hf sz).1.length, 0⟩ A m c l).set (p := ⟨k, 1, none⟩) hkl hLk _).set (p := ⟨k, 3, none⟩) hkl hLk _).below (Below.refl _ _).drew)
          have o6 : OT W6 L g D sz lb t0 ⟨hf, 0, (recs D.now 0 hf).2.1, (recs D.now 0 hf).1.length, 0⟩ A0 m0 c0 (lastR (recs D.now 0 hf).1) := by
            rw [hW6]
            exact ((((OT0.out.2.below Hb05.out).set (p := ⟨k, 1, none⟩) hkl hLk _).set (p := ⟨k, 3, none⟩) hkl hLk _).below (Below.refl _ _).drew)
          have O6 := Lib.hid o6
          clear o6
          have s6 : lb < W6.heap.size := by
            have h1 : W6.heap.size = w5.heap.size := by rw [hW6]; simp [World.setCell, World.drew]
            have h2 := Hb05.out.size
            omega
          have r6 : BR W6 (fun b => lb < b ∧ b ≠ k) A' mm rows := by
            have hbr := R.out.2.1
            have hq : ∀ b, ((wr.alloc (.cells #[.int .i64 (hf : Nat), .int .i64 ((sz - hf : Nat) : Int)] 61)).heap.size ≤ b ∧ b ≠ tg) → lb < b ∧ b ≠ k := fun b hb => by have h1 := hb.1; simp at h1; have := KL.out; omega
            have hs : ∀ {n2 sz2 : Nat} {A2 : Option Addr} {xs : List Value}, Rd w5 (fun b => lb < b ∧ b ≠ k) sz2 A2 n2 xs → Rd W6 (fun b => lb < b ∧ b ≠ k) sz2 A2 n2 xs := fun h => by
              rw [hW6]
              exact ((h.setCell (p := ⟨k, 1, none⟩) (fun h => h.2 rfl) _).setCell (p := ⟨k, 3, none⟩) (fun h => h.2 rfl) _).drew
            exact ⟨hs (hbr.1.mono hq), fun x hx => ⟨hs ((hbr.2 x hx).1.mono hq), (hbr.2 x hx).2⟩⟩
          rw [← hW6]
          have KR := Lib.hid (And.intro b6 s6)
          have X6 := Lib.hid (And.intro x6 (And.intro l6 (And.intro t6 r6)))
          clear hW6 x6 b6 s6 t6 r6 hS kc1 kc3 kf1 kf3
          by_cases hm0 : mm = 0
          · have hmd : decide ((0 : Int) < (mm : Nat)) = false := decide_eq_false (by omega)
            have hmd2 : decide (0 < mm) = false := decide_eq_false (by omega)
            have hla : lastR (recs D.now hf sz).1 = [] := by
              have h1 := R.out.2.2.2.2.2.2.1
              have h2 : (recs D.now hf sz).1 = [] := List.eq_nil_of_length_eq_zero (by omega)
              unfold lastR
              rw [h2]
              rfl
            have HLA := Lib.hid hla
            clear hla l6
            go_wp2_with fail
            go_roundg (2 - (1 + 1))
            case measure => have := Hc.out; omega
            case rel => exact ⟨2, rfl, by omega, by go_num, KR.out.1, KR.out.2, fun h => by omega, fun h => by omega, fun _ => ⟨OT0.out.1, HH.out, t0, A0, m0, c0, tg, none, 0, 0, NE.out, O6.out, by rw [HLA.out]; exact X6.out.2.2.1 none 0 0 [] Rd.none_ (Nat.le_refl _) (Nat.zero_le _), X6.out.1, X6.out.2.1⟩⟩
          · have hmd : decide ((0 : Int) < (mm : Nat)) = true := decide_eq_true (by omega)
            have hmd2 : decide (0 < mm) = true := decide_eq_true (by omega)
            obtain ⟨q, hq⟩ : ∃ q, mm = q + 1 := ⟨mm - 1, by omega⟩
            subst hq
            obtain ⟨b, o, x, rfl, -, -, hx, cx⟩ := br_cells (j := q) X6.out.2.2.2.1 (by omega)
            have hxr := X6.out.2.2.2.2 x (List.mem_of_getElem? hx)
            have hla : lastR (recs D.now hf sz).1 = x.d := by
              unfold lastR
              rw [R.out.2.2.2.2.2.2.1, ← R.out.2.2.1, List.getD_eq_getElem?_getD, List.getElem?_map, show q + 1 - 1 = q from rfl, hx]
              rfl
            have wq1 : IntKind.i64.wrap (((q + 1 : Nat) : Int) - 1) = (q : Nat) := by rw [IntKind.wrap_i64]; have := R.out.2.2.2.2.1; have h2 := R.out.2.2.2.1; unfold maxLen at this; omega
            have hqb : q < 9223372036854775807 := by have := R.out.2.2.2.2.1; have h2 := R.out.2.2.2.1; unfold maxLen at this; omega
            have wq2 : IntKind.i64.wrap ((q : Nat) : Int) = (q : Nat) := by rw [IntKind.wrap_i64]; omega
            have hq0 : (0 : Int) ≤ (q : Nat) := by omega
            clear hqb
            have lc1 := l6.c 1
            have lf1 := l6.f 1
            have hxm := List.mem_of_getElem? hx
            have HLA := Lib.hid (And.intro hla (And.intro hxr hxm))
            clear hla hxr hx hxm
            go_wp2_with fail
            obtain ⟨W7, hW7⟩ : ∃ W7, W7 = W6.setCell ⟨lb, 1, none⟩ (.slice x.A x.n x.m) := ⟨_, rfl⟩
            have hkl7 : k ≠ lb := by have := KL.out; omega
            have x7 := X6.out.1.far (p := ⟨lb, 1, none⟩) hkl7 (.slice x.A x.n x.m)
            have l7 := X6.out.2.1.set 1 (.slice x.A x.n x.m)
            have b7 : Below w.heap.size w W7 := by
              have := KL.out
              rw [hW7]
              exact KR.out.1.setCell (by show w.heap.size ≤ lb; omega) _
            have s7 : lb < W7.heap.size := by
              rw [hW7]
              simp [World.setCell]
              exact KR.out.2
            have t7 : OT W7 L g D sz lb tg ⟨sz, hf, (recs D.now hf sz).2.1, (recs D.now hf sz).1.length, 0⟩ x.A x.n x.m (lastR (recs D.now hf sz).1) := by
              have h1 := (R.out.2.1.2 x HLA.out.2.2)
              rw [HLA.out.1, hW7]
              refine (X6.out.2.2.1 x.A x.n x.m x.d (h1.1.mono fun b hb => ?_) h1.2.1 h1.2.2).set (p := ⟨lb, 1, none⟩) (Nat.le_refl _) hLl _
              have h2 := hb.1
              simp at h2
              omega
            have o7 : OT W7 L g D sz lb t0 ⟨hf, 0, (recs D.now 0 hf).2.1, (recs D.now 0 hf).1.length, 0⟩ A0 m0 c0 (lastR (recs D.now 0 hf).1) := by
              rw [hW7]
              exact O6.out.set (p := ⟨lb, 1, none⟩) (Nat.le_refl _) hLl _
            have O7 := Lib.hid o7
            clear o7
            rw [← hW7] at x7 l7 ⊢
            have F7 := Lib.hid (And.intro x7 (And.intro l7 (And.intro b7 (And.intro s7 t7))))
            clear x7 l7 b7 s7 t7 hW7
            go_roundg (2 - (1 + 1))
            case measure => have := Hc.out; omega
            case rel => exact ⟨2, rfl, by omega, by go_num, F7.out.2.2.1, F7.out.2.2.2.1, fun h => by omega, fun h => by omega, fun _ => ⟨OT0.out.1, HH.out, t0, A0, m0, c0, tg, x.A, x.n, x.m, NE.out, O7.out, F7.out.2.2.2.2, F7.out.1, F7.out.2.1⟩⟩
    · obtain rfl : j = 2 := by omega
      obtain ⟨hh0, hh1, t0, A0, m0, c0, t1, A1, m1, c1, hne, ot0, ot1, bk, bl⟩ := hj2 rfl
      clear hj0 hj1 hj2
      obtain rfl := Hhf.out
      have hkv := KL.out
      have hlw := W3h.out.2.2.2.2
      have hbe := Hbe.out.1
      have hkz : k < wr.heap.size := bk.lt
      have e0 : ((kpOf sz D).w0 : Int) = ((sz / 2 - 5 : Nat) : Int) := by unfold kpOf; dsimp only; omega
      have e1 : ((kpOf sz D).w1 : Int) = ((sz - sz / 2 - 5 : Nat) : Int) := by unfold kpOf; dsimp only; omega
      have kx : KX fb wr L k g t0 t1 (kpOf sz D) ⟨0, 0, 0, 0, none, 0, 0, [], none, 0, 0, [], none, 0, 0, []⟩ D sz := by
        have h1 := ot0.lo
        have h2 := ot1.lo
        refine ⟨ot0.tx.dx, ot0.tx.bx, ot1.tx.bx, ot0.tx.ok, ot1.tx.ok, ?_, ⟨Rd.none_, (fun y hy => by cases hy), Rd.none_, Rd.none_, ⟨Nat.le_refl _, Nat.zero_le _⟩, ⟨Nat.le_refl _, Nat.zero_le _⟩, ⟨Nat.le_refl _, Nat.zero_le _⟩⟩, rfl, ⟨⟨by unfold I64; dsimp only; omega, by unfold I64; dsimp only; omega, by unfold I64; dsimp only; omega, by unfold I64; dsimp only; omega⟩, (fun y hy => by cases hy), ⟨Nat.zero_le _, Nat.zero_le _, Nat.zero_le _⟩⟩, ot0.tx.nl, ot1.tx.nl, (fun hl => by have := hlw k hl; omega), hne, by omega, by omega, by have h3 := Hfl.out; have h4 := hbe.size; omega⟩
        unfold Kp.cells
        rw [e0, e1]
        exact bk
      have hev := B.out.2.2.2.2.2.2.2.below hbe (Nat.le_refl _)
      have hcho := choose_any wr kx A0 A1 m0 m1 c0 c1 _ _ (ot0.rd.mono fun b hb => by omega) (ot1.rd.mono fun b hb => by omega) ot0.cp ot1.cp (hev.mono hbe.size) (hev.mono (by omega))
      have hos : openS sz D = chooseS (kpOf sz D) (lastR (recs D.now 0 (sz / 2)).1) (lastR (recs D.now (sz / 2) sz).1) := by
        unfold openS
        rw [if_neg (fun h => h.elim (fun h => by rw [hh0] at h; cases h) (fun h => by rw [hh1] at h; cases h))]
      rw [← hos] at hcho
      obtain ⟨oc, hoc⟩ : ∃ oc, openS sz D = oc := ⟨_, rfl⟩
      rw [hoc] at hcho
      obtain ⟨z0, z1, -⟩ := bl.c2
      have Hcho := Lib.hid hcho
      have Hoc := Lib.hid hoc
      have hwk : w.heap.size ≤ k := by omega
      have T01 := Lib.hid (And.intro (by have := ot0.lo; omega : w.heap.size ≤ t0) (And.intro (by have := ot1.lo; omega : w.heap.size ≤ t1) hwk))
      clear hcho hoc hos hev kx ot0 ot1 bk bl hne e0 e1 hh0 hh1 hbe hkv wq hdv wh wd we w5a w5b hfb hlw hkz
      cases oc with
      | none =>
        go_wp2_with fail
        refine Hcho.out.mono ?_
        intro e w5 hp
        rw [ChoP_none] at hp
        obtain ⟨rfl, hk5⟩ := hp
        have hb5 := Hbe.out.1.trans (hk5.below (B := w.heap.size) (fun b hb => by rw [hb]; exact hwk) Hbe.out.1.size)
        have H5 := Lib.hid hb5
        clear hk5 hb5
        go_wp2_with fail
        go_ret2
        exact .inl ⟨Hoc.out, rfl, H5.out⟩
      | some K =>
        go_wp2_with fail
        refine Hcho.out.mono ?_
        intro e w5 hp
        rw [ChoP_some] at hp
        obtain ⟨rfl, hk5, z, kx5⟩ := hp
        have hb5 := Hbe.out.1.trans (hk5.below (B := w.heap.size) (fun b hb => by rw [hb]; exact hwk) Hbe.out.1.size)
        obtain ⟨d0, d1, d2, d3, d4, d5, d13⟩ := kx5.c
        have H5 := Lib.hid (And.intro hb5 kx5)
        clear hk5 hb5 kx5
        by_cases hn0 : 0 < K.n
        · have hnd : decide ((0 : Int) < (K.n : Nat)) = true := decide_eq_true (by omega)
          have hnd2 : decide (0 < K.n) = true := decide_eq_true hn0
          have Hn := Lib.hid hn0
          clear hn0
          go_wp2_with fail
          go_ret2
          exact .inr (.inl ⟨K, k, t0, t1, z, Hoc.out, Hn.out, rfl, H5.out.2, T01.out.2.2, T01.out.1, T01.out.2.1, H5.out.1⟩)
        · have hnd : decide ((0 : Int) < (K.n : Nat)) = false := decide_eq_false (by omega)
          have hnd2 : decide (0 < K.n) = false := decide_eq_false hn0
          have hKn : K.n = 0 := by omega
          have hcl := cloneC_any A n c cf w5 (((B.out.2.1.lt (by omega)).mono fun b hb => hb.2).below H5.out.1) (by omega)
          have Hcl := Lib.hid hcl
          have Hn := Lib.hid hKn
          clear hn0 hcl hKn
          go_wp2_with fail
          refine Hcl.out.mono ?_
          rintro e w6 ⟨C, cc, rfl, oC, hb6⟩
          have kx6 := H5.out.2.below hb6
          have hb06 := H5.out.1.trans (hb6.mono H5.out.1.size)
          have hlow : ∀ b, w5.heap.size ≤ b → ¬ L b ∧ b ≠ t0 ∧ b ≠ t1 ∧ b ≠ k := fun b hb => ⟨fun hl => by have := H5.out.2.dx.lt b hl; omega, fun e => by have := H5.out.2.b0.lt; omega, fun e => by have := H5.out.2.b1.lt; omega, fun e => by have := H5.out.2.kb.lt; omega⟩
          have hs6 : Sv.At ⟨0, 0, 0, 0, none, 0, 0, [], C, n, cc, cf, none, 0, 0, []⟩ w6 (fun b => ¬ L b ∧ b ≠ t0 ∧ b ≠ t1 ∧ b ≠ k) := ⟨Rd.none_, (fun y hy => by cases hy), (Rd.of_own oC).mono fun b hb => hlow b hb, Rd.none_, ⟨Nat.le_refl _, Nat.zero_le _⟩, own_cp oC, ⟨Nat.le_refl _, Nat.zero_le _⟩⟩
          have hf6 : Sv.Fit ⟨0, 0, 0, 0, none, 0, 0, [], C, n, cc, cf, none, 0, 0, []⟩ := ⟨⟨by unfold I64; dsimp only; omega, by unfold I64; dsimp only; omega, by unfold I64; dsimp only; omega, by unfold I64; dsimp only; omega⟩, (fun y hy => by cases hy), ⟨Nat.zero_le _, by dsimp only; omega, Nat.zero_le _⟩⟩
          have hmay : (St0 cf).may = true := by
            unfold St0 St.may
            dsimp only
            rw [B.out.2.2.2.1]
            rfl
          have hlay := klay_any w6 kx6 ⟨0, 0, 0, 0, none, 0, 0, [], C, n, cc, cf, none, 0, 0, []⟩ hs6 hf6 hmay (B.out.2.2.2.2.2.2.1.below hb06 (Nat.le_refl _)) (by rw [Hn.out]; omega) B.out.2.2.2.2.2.1
          have hst : Sv.st ⟨0, 0, 0, 0, none, 0, 0, [], C, n, cc, cf, none, 0, 0, []⟩ = St0 cf := rfl
          rw [hst] at hlay
          unfold Sv.val stA at hlay
          obtain ⟨r, hr⟩ : ∃ r, K.lay D (St0 cf) = r := ⟨_, rfl⟩
          rw [hr] at hlay
          have Hlay := Lib.hid hlay
          have Hr := Lib.hid hr
          have H6 := Lib.hid hb06
          clear kx6 hb06 hlow hs6 hf6 hmay hlay hst hr oC hb6
          go_wp2_with fail
          refine Hlay.out.mono ?_
          intro e w7 hp
          obtain ⟨rfl, z', L', kx7, hl7, hk7⟩ := hp
          have hle : w.heap.size ≤ w6.heap.size := H6.out.size
          have hl8 : ∀ b, L' b → L b ∨ w.heap.size ≤ b := fun b hb => (hl7 b hb).elim .inl fun h => .inr (Nat.le_trans hle h)
          have hk8 : Kept L w w7 := (Kept.of_new H6.out).trans hk7 fun b hb hu => by
            have := T01.out
            rcases hu with h | h | h | h
            · exact h
            · omega
            · omega
            · omega
          have H7 := Lib.hid (And.intro kx7 (And.intro hl8 hk8))
          clear kx7 hl7 hk7 hl8 hk8
          by_cases hr0 : r.2.2 = 0
          · have hd0 : errD r.2.2 = .nilIface := by rw [hr0]; rfl
            have Hr0 := Lib.hid hr0
            rw [hd0]
            clear hr0 hd0
            go_wp2_with fail
            go_ret2
            exact .inr (.inr (.inl ⟨K, k, t0, t1, z', L', Hoc.out, Hn.out, by rw [Hr.out]; exact Hr0.out, rfl, by rw [Hr.out]; exact H7.out.1, H7.out.2.1, T01.out.2.2, T01.out.1, T01.out.2.1, H7.out.2.2⟩))
          · have hd0 : errD r.2.2 = .iface 69 (.int .i64 r.2.2) := by unfold errD; rw [if_neg hr0]
            have Hr0 := Lib.hid hr0
            rw [hd0]
            clear hr0 hd0
            go_wp2_with fail
            go_ret2
            exact .inr (.inr (.inr ⟨K, Hoc.out, Hn.out, by rw [Hr.out]; exact Hr0.out, by rw [Hr.out]; rfl⟩))
end
end Go.Proofs.YtlecglmiigdjlaaGreatDoor
