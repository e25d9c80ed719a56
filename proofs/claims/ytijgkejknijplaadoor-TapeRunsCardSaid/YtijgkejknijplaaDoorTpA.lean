/- Walks of a tape's Append and Reset. -/
import Derived.Test.YtijgkejknijplaaDoorTpN
namespace Go.Proofs.YtijgkejknijplaaDoor
open Go.RowKit
set_option maxRecDepth 100000
set_option linter.unusedVariables false
set_option linter.unusedSimpArgs false
section
variable {W W' W2 : World} {L L' : Nat → Prop} {tg g : Nat} {t t' : Tp} {D D' : Dk} {z : Nat}
def TAPost (W : World) (L : Nat → Prop) (tg g : Nat) (r : Tp × Dk × Int) (z : Nat) (e : Ending) (w' : World) : Prop := e = .returned (errD r.2.2) ∧ AftT W L tg g r.1 r.2.1 z w'
theorem append_dead (A : Option Addr) (n c : Nat) (b : List UInt8) (w : World) (h : TDX w L tg g t D z) (hd : t.dead ≠ 0) :
    Calls Tryd.prog 18 #[.pointer (some ⟨tg, 0, none⟩), .slice A n c] w (TAPost w L tg g (t.append D b) z) := by
  have ha := alive_any w h
  rw [errD_ne hd] at ha
  have e1 : t.append D b = (t, D, t.dead) := by unfold Tp.append; rw [if_pos hd]
  rw [e1]
  unfold TAPost
  dsimp only
  rw [errD_ne hd]
  have H := Lib.hid h
  clear h e1
  go_enter Tryd.func18, Tryd.ntmps18
  go_wp2_with fail
  refine ha.mono ?_
  rintro e w1 ⟨rfl, rfl⟩
  go_wp2_with fail
  go_ret
  exact ⟨rfl, AftT.refl H.out⟩
theorem append_no (A : Option Addr) (n c : Nat) (b : List UInt8) (w : World) (h : TDX w L tg g t D z) (hd : t.dead = 0) (hb : b.length = n) (hn : 1048576 < n ∨ t.room < n) (hmx : n ≤ maxLen) :
    Calls Tryd.prog 18 #[.pointer (some ⟨tg, 0, none⟩), .slice A n c] w (TAPost w L tg g (t.append D b) z) := by
  have ha := alive_any w h
  rw [hd, errD_nil] at ha
  have hrm := room_any w h
  have H := Lib.hid h
  unfold maxLen at hmx
  by_cases h1 : 1048576 < n
  · have e1 : t.append D b = (t, D, 2) := by unfold Tp.append; rw [if_neg (by rw [hd]; decide), if_pos (by omega)]
    have h1I : (1048576 : Int) < n := by omega
    rw [e1]
    unfold TAPost
    dsimp only
    rw [errD_ne (by decide)]
    clear h e1 hn
    go_enter Tryd.func18, Tryd.ntmps18
    go_wp2_with fail
    refine ha.mono ?_
    rintro e w1 ⟨rfl, rfl⟩
    go_wp2_with fail
    go_ret
    exact ⟨rfl, AftT.refl H.out⟩
  · have h2 : t.room < n := by omega
    have e1 : t.append D b = (t, D, 10) := by unfold Tp.append; rw [if_neg (by rw [hd]; decide), if_neg (by omega), if_pos (by rw [hb]; exact h2)]
    have h1I : decide ((1048576 : Int) < n) = false := by simp; omega
    rw [e1]
    unfold TAPost
    dsimp only
    rw [errD_ne (by decide)]
    obtain ⟨R, hR⟩ : ∃ R, R = t.room := ⟨_, rfl⟩
    rw [← hR] at hrm h2
    clear h e1 hn hR
    go_enter Tryd.func18, Tryd.ntmps18
    go_wp2_with fail
    refine ha.mono ?_
    rintro e w1 ⟨rfl, rfl⟩
    go_wp2_with fail
    refine hrm.mono ?_
    rintro e w2 ⟨rfl, k, rfl⟩
    go_wp2_with fail
    go_ret
    exact ⟨rfl, AftT.new H.out ⟨rfl, rfl, rfl, Nat.le_refl _, fun _ _ => rfl⟩⟩
theorem enc4_cells (n : Nat) (h : n ≤ 1048576) : [Value.int .u8 ((n : Int) / 16777216), .int .u8 ((n : Int) / 65536), .int .u8 ((n : Int) / 256 % 256), .int .u8 ((n : Int) % 256)] = bs (enc4 n) := by
  unfold bs enc4
  simp only [List.map_cons, List.map_nil, UInt8.toNat_ofNat', List.cons.injEq, Value.int.injEq, true_and, and_true]
  omega
theorem enc4_own (W : World) (n : Nat) (h : n ≤ 1048576) : (W.alloc (.cells #[Value.int .u8 ((n : Int) / 16777216), .int .u8 ((n : Int) / 65536), .int .u8 ((n : Int) / 256 % 256), .int .u8 ((n : Int) % 256)] 5)).ownsRow W.heap.size 5 1 (.slice (some ⟨W.heap.size, 0, none⟩) 4 4) 4 (bs (enc4 n)) := by
  rw [← enc4_cells n h]
  exact World.ownsRow_lit W _ 4 (Nat.le_refl _) (by unfold maxLen; omega) rfl
theorem byte_rd (W : World) (x : UInt8) (z : Int) (hz : z = x.toNat) : Rd (W.alloc (.cells #[.int .u8 z] 5)) (W.heap.size ≤ ·) 1 (some ⟨W.heap.size, 0, none⟩) 1 (bs [x]) := by
  subst hz
  exact Rd.lit (w := W) (cs := #[.int .u8 x.toNat]) (t := 5) (fr := (0, 0)) rfl
theorem safely_q (D : Dk) (p : Int) (b : List UInt8) : (D.safely p b).1.q.length ≤ D.q.length + 1 := by
  have h1 := write_q D p b
  unfold Dk.safely
  split
  · unfold Dk.sync
    split
    · split
      · have : (D.write p b).1.stepped.q = (D.write p b).1.q := by unfold Dk.stepped; split <;> rfl
        show (D.write p b).1.stepped.q.length ≤ _
        rw [this]
        exact h1
      · exact Nat.zero_le _
    · exact h1
  · exact h1
theorem AftT.cells (h : AftT W L tg g t D z W2) : ∃ L', TDX W2 L' tg g t D z ∧ (∀ b, L' b → L b ∨ W.heap.size ≤ b) ∧ Kept (fun b => L b ∨ b = tg) W W2 := h
set_option maxHeartbeats 3200000 in
theorem append_yes (A : Option Addr) (n c : Nat) (b : List UInt8) (w : World) (h : TDX w L tg g t D z) (hd : t.dead = 0) (hr : Rd w T 1 A n (bs b)) (h1 : n ≤ 1048576) (h2 : (n : Int) ≤ t.room) (hq : D.q.length ≤ 999000) :
    Calls Tryd.prog 18 #[.pointer (some ⟨tg, 0, none⟩), .slice A n c] w (TAPost w L tg g (t.append D b) z) := by
  have hb := hr.blen
  have hbl := hb
  have ha := alive_any w h
  rw [hd, errD_nil] at ha
  have hrm := room_any w h
  obtain ⟨o1, o2, o3, o4⟩ := h.ok
  have hz := h.dx.z2
  have H := Lib.hid h
  have Hr := Lib.hid hr
  have h1I : decide ((1048576 : Int) < n) = false := by simp; omega
  have hroom : t.p + 5 + n ≤ t.en := by
    unfold Tp.room at h2
    split at h2 <;> omega
  obtain ⟨R, hR⟩ : ∃ R, R = t.room := ⟨_, rfl⟩
  rw [← hR] at hrm h2
  have h2I : decide (R < (n : Int)) = false := by simp; omega
  have Hh1 := Lib.hid h1
  have h9 : n ≤ 1048576 := h1
  obtain ⟨out, hout⟩ : ∃ out, out = t.out b := ⟨_, rfl⟩
  have hol : out.length ≤ 1048581 := by rw [hout, Tp.out_len]; split <;> omega
  have s1 : (t.p : Int) + 5 + n < 9223372036854775808 := by omega
  have s2 : -9223372036854775808 ≤ (t.p : Int) + 5 + n := by omega
  have s3 : -9223372036854775808 ≤ (t.en : Int) - ((t.p : Int) + 5 + n) := by omega
  have s4 : (t.en : Int) - ((t.p : Int) + 5 + n) < 9223372036854775808 := by omega
  have heq : t.append D b = if (D.safely (t.p + 1 : Nat) out).2 ≠ 0 then ({ t with dead := (D.safely (t.p + 1 : Nat) out).2 }, D.safely (t.p + 1 : Nat) out) else
      if ((D.safely (t.p + 1 : Nat) out).1.safely t.p [1]).2 ≠ 0 then ({ t with dead := ((D.safely (t.p + 1 : Nat) out).1.safely t.p [1]).2 }, (D.safely (t.p + 1 : Nat) out).1.safely t.p [1]) else
      ({ t with p := t.p + 5 + b.length, n := t.n + 1 }, ((D.safely (t.p + 1 : Nat) out).1.safely t.p [1]).1, 0) := by
    unfold Tp.append
    rw [if_neg (by rw [hd]; decide), if_neg (by omega), if_neg (by rw [← hR]; omega), ← hout]
  have ep : ((t.p + 1 : Nat) : Int) = (t.p : Int) + 1 := by omega
  rw [ep] at heq
  have Heq := Lib.hid heq
  clear ep
  clear h hr hR heq
  have Hout := Lib.hid hout
  have Hhd := Lib.hid hd
  have Hbl := Lib.hid hbl
  clear hout hd hb hbl
  go_enter Tryd.func18, Tryd.ntmps18
  go_wp2_with fail
  refine ha.mono ?_
  rintro e w1 ⟨rfl, rfl⟩
  go_wp2_with fail
  refine hrm.mono ?_
  rintro e w2 ⟨rfl, k, rfl⟩
  have hrd := Hr.out.drewN k
  have hb0 : Below w1.heap.size w1 (w1.drewN k) := ⟨rfl, rfl, rfl, Nat.le_refl _, fun _ _ => rfl⟩
  go_upto_if 55 with (at_builtin; go_must (refine wpList_append_any _ Tryd.underlying22 u8_elem rfl (by omega) rfl rfl rfl (enc4_own (w1.drewN k) n h9) rfl (hrd.alloc _) (bs_one b) (by omega) (by simp) rfl rfl ?_); intro A3 c3 w3 hown3 hg3 hat3; have hb3 : Below w1.heap.size w1 w3 := (hb0.alloc (Nat.le_refl _) _).grown hg3 (by simp) (by simp); have h3 := H.out.below hb3; obtain ⟨d0, d1, d2, d3, d4, d5⟩ := h3.c; have Hb3 := Lib.hid hb3; have H3 := Lib.hid h3; have Hown3 := Lib.hid hown3; clear hb3 h3 hown3 hg3 hat3 d0 d2 d4 d5)
  go_cut [7] (fun s7 W => ∃ A4 c4, s7 = .slice A4 out.length c4 ∧ W.ownsRow w1.heap.size 5 1 (.slice A4 out.length c4) out.length (bs out) ∧ Below w1.heap.size w1 W)
  case first =>
    by_cases h5 : t.p + 5 + n + 5 ≤ t.en
    · have h5I : (5 : Int) ≤ (t.en : Int) - ((t.p : Int) + 5 + n) := by omega
      have ho : out = enc4 n ++ b ++ [0] := by rw [Hout.out]; unfold Tp.out; rw [Hbl.out, if_pos h5]
      have Ho := Lib.hid ho
      clear ho hrd h2 hroom hrm ha hol
      clear s1 s2 s3 s4 hq o1 o2 o3 o4 hz h1I h2I hb0
      go_wp2_with (at_builtin; go_must (refine wpList_append_any _ Tryd.underlying22 u8_elem rfl (by omega) rfl rfl rfl (own_below Hown3.out ((Below.refl _ _).alloc (Nat.le_refl _) _)) rfl (byte_rd w3 0 0 rfl) (bs_one [0]) (by omega) (by have := Hb3.out.size; simp; omega) rfl rfl ?_); intro A4 c4 w4 hown4 hg4 hat4)
      go_meet
      case rel =>
        have e1 : 4 + n + 1 = out.length := by rw [Ho.out]; simp [enc4, Hbl.out]; omega
        have e2 : bs (enc4 n) ++ bs b ++ bs [0] = bs out := by rw [Ho.out, bs_append, bs_append]
        rw [e2, e1] at hown4
        refine ⟨A4, c4, by rw [e1], hown4, (Hb3.out.alloc Hb3.out.size _).grown hg4 (by have := Hb3.out.size; simp; omega) fun g hg => (own_lt Hown3.out g hg).1⟩
    · have h5I : decide ((5 : Int) ≤ (t.en : Int) - ((t.p : Int) + 5 + n)) = false := by simp; omega
      have ho : out = enc4 n ++ b := by rw [Hout.out]; unfold Tp.out; rw [Hbl.out, if_neg h5, List.append_nil]
      have Ho := Lib.hid ho
      clear ho hrd h2 hroom hrm ha hol
      clear s1 s2 s3 s4 hq o1 o2 o3 o4 hz h1I h2I hb0
      go_wp2_with fail
      go_meet
      case rel =>
        have e1 : 4 + n = out.length := by rw [Ho.out]; simp [enc4, Hbl.out]; omega
        have e2 : bs (enc4 n) ++ bs b = bs out := by rw [Ho.out, bs_append]
        have h7 := Hown3.out
        rw [e2, e1] at h7
        exact ⟨A3, c3, by rw [e1], h7, Hb3.out⟩
  case rest =>
    obtain ⟨A4, c4, rfl, hown4, hb4⟩ := hcut
    have h4 := H.out.below hb4
    obtain ⟨d0, d1, d2, d3, d4, d5⟩ := h4.c
    have hlt := H.out.dx.lt
    have hw := twrite_any ((t.p : Int) + 1) A4 out.length c4 out _ h4 ((Rd.of_own hown4).mono fun b' h6 h7 => by have := hlt b' h7; omega) (by unfold I64; omega) (by omega) (by omega)
    unfold TWPost at hw
    have hq1 := safely_q D ((t.p : Int) + 1) out
    have heq := Heq.out
    obtain ⟨r1, hr1⟩ : ∃ r1, r1 = D.safely ((t.p : Int) + 1) out := ⟨_, rfl⟩
    rw [← hr1] at hw hq1 heq
    rw [Hbl.out] at heq
    obtain ⟨m, hm⟩ : ∃ m, m = out.length := ⟨_, rfl⟩
    rw [← hm] at hw ⊢
    have Hb4 := Lib.hid hb4
    have Hq1 := Lib.hid hq1
    have Hq0 := Lib.hid hq
    have Hfacts := Lib.hid (And.intro (And.intro o1 o2) (And.intro (And.intro o3 o4) (And.intro hz hroom)))
    clear hown4 hb4 h4 hr1 hq1 hm hlt Hout Heq hrd hb0 ha hrm hq hol d0 d1 d2 d4 d5
    by_cases k1 : r1.2 = 0
    · rw [if_neg (by simpa using k1)] at heq
      rw [k1, errD_nil] at hw
      have Hw := Lib.hid hw
      have Heq2 := Lib.hid heq
      clear hw heq k1
      go_wp2_with fail
      refine Hw.out.mono ?_
      rintro e w5 ⟨rfl, L5, h5, l5, kp5⟩
      have ht0 : ({ t with dead := 0 } : Tp) = t := by rw [← Hhd.out]
      rw [ht0] at h5
      obtain ⟨b0, b1, b2, b3, b4, b5⟩ := h5.c
      have hlt5 := h5.dx.lt
      have H5 := Lib.hid h5
      have L5' := Lib.hid l5
      have Kp5 := Lib.hid kp5
      have hal := fun ob => (Below.refl w5.heap.size w5).alloc (Nat.le_refl _) ob
      have hw2 := twrite_any (t.p : Nat) (some ⟨w5.heap.size, 0, none⟩) 1 1 [1] _ (h5.below (hal (.cells #[.int .u8 1] 5))) ((byte_rd w5 1 1 rfl).mono fun b' h6 h7 => by have := hlt5 b' h7; omega) (by unfold I64; omega) (by omega) (by have := Hq1.out; have := Hq0.out; omega)
      unfold TWPost at hw2
      obtain ⟨r2, hr2⟩ : ∃ r2, r2 = r1.1.safely t.p [1] := ⟨_, rfl⟩
      rw [← hr2] at hw2
      have heq := Heq2.out
      rw [← hr2] at heq
      clear h5 l5 kp5 hlt5 Hw hr2 Heq2 b1 b2 b4 b5 ht0
      by_cases k2 : r2.2 = 0
      · rw [if_neg (by simpa using k2)] at heq
        rw [k2, errD_nil] at hw2
        have Hw2 := Lib.hid hw2
        have Heq3 := Lib.hid heq
        clear hw2 heq k2
        go_wp2_with fail
        refine Hw2.out.mono ?_
        rintro e w6 ⟨rfl, haft⟩
        obtain ⟨L6, h6, l6, kp6⟩ := AftT.behind (hal _) haft
        have ht0 : ({ t with dead := 0 } : Tp) = t := by rw [← Hhd.out]
        rw [ht0] at h6
        obtain ⟨y0, y1, y2, y3, y4, y5⟩ := h6.c
        have f3 := h6.bx.f 3
        have f4 := h6.bx.f 4
        have H6 := Lib.hid h6
        have L6' := Lib.hid l6
        have Kp6 := Lib.hid kp6
        clear Hw2 haft h6 l6 kp6 ht0 y0 y1 y2 y5 b0 b3 d3
        have hn9 : t.n ≤ 4194304 := by omega
        clear s1 s2 s3 s4 o1 o2 o3 o4 hz h1I h2I h2 hroom
        go_wp2_with fail
        go_ret
        obtain ⟨⟨o1, o2⟩, ⟨o3, o4⟩, hz, hroom⟩ := Hfacts.out
        have hset3 : (tcells g t).setIfInBounds 3 (.int .i64 ((t.p : Int) + 5 + n)) = tcells g { t with p := t.p + 5 + n } := by
          simp [tcells]
        have hok : Tp.Ok { t with p := t.p + 5 + n, n := t.n + 1 } z := ⟨by dsimp only; omega, by dsimp only; omega, o3, by dsimp only; omega⟩
        have hok3 : Tp.Ok { t with p := t.p + 5 + n } z := ⟨by dsimp only; omega, by dsimp only; omega, o3, by dsimp only; omega⟩
        have hset4 : (tcells g { t with p := t.p + 5 + n }).setIfInBounds 4 (.int .i64 ((t.n : Int) + 1)) = tcells g { t with p := t.p + 5 + n, n := t.n + 1 } := by simp [tcells]
        rw [Heq3.out]
        refine ⟨rfl, AftT.behind Hb4.out (AftT.next Kp5.out L5'.out ⟨L6, (H6.out.set (i := 3) hset3 hok3).set (i := 4) hset4 hok, L6'.out, (Kp6.out.set (p := ⟨tg, 3, none⟩) (.inr rfl) _).set (p := ⟨tg, 4, none⟩) (.inr rfl) _⟩)⟩
      · rw [if_pos (by simpa using k2)] at heq
        rw [errD_ne k2] at hw2
        have Hw2 := Lib.hid hw2
        have Heq3 := Lib.hid heq
        have K2 := Lib.hid k2
        clear hw2 heq k2
        go_wp2_with fail
        refine Hw2.out.mono ?_
        rintro e w6 ⟨rfl, haft⟩
        have hfin := AftT.behind Hb4.out (AftT.next Kp5.out L5'.out (AftT.behind ((Below.refl _ _).alloc (Nat.le_refl _) _) haft))
        have Hfin := Lib.hid hfin
        clear Hw2 haft hfin b0 b3 d3
        go_wp2_with fail
        go_ret
        rw [Heq3.out]
        exact ⟨by rw [errD_ne K2.out]; rfl, Hfin.out⟩
    · rw [if_pos (by simpa using k1)] at heq
      rw [errD_ne k1] at hw
      have Hw := Lib.hid hw
      have Heq2 := Lib.hid heq
      have K1 := Lib.hid k1
      clear hw heq k1
      go_wp2_with fail
      refine Hw.out.mono ?_
      rintro e w5 ⟨rfl, haft⟩
      have hfin := AftT.behind Hb4.out haft
      have Hfin := Lib.hid hfin
      clear Hw haft hfin d3
      go_wp2_with fail
      go_ret
      rw [Heq2.out]
      exact ⟨by rw [errD_ne K1.out]; rfl, Hfin.out⟩
theorem append_any (A : Option Addr) (n c : Nat) (b : List UInt8) (w : World) (h : TDX w L tg g t D z) (hr : Rd w T 1 A n (bs b)) (hmx : n ≤ maxLen) (hq : D.q.length ≤ 999000) :
    Calls Tryd.prog 18 #[.pointer (some ⟨tg, 0, none⟩), .slice A n c] w (TAPost w L tg g (t.append D b) z) := by
  by_cases hd : t.dead = 0
  · by_cases h1 : 1048576 < n ∨ t.room < n
    · exact append_no A n c b w h hd hr.blen h1 hmx
    · exact append_yes A n c b w h hd hr (by omega) (by omega) hq
  · exact append_dead A n c b w h hd
theorem reset_dead (w : World) (h : TDX w L tg g t D z) (hd : t.dead ≠ 0) :
    Calls Tryd.prog 19 #[.pointer (some ⟨tg, 0, none⟩)] w (TAPost w L tg g (t.reset D) z) := by
  have ha := alive_any w h
  rw [errD_ne hd] at ha
  have e1 : t.reset D = (t, D, t.dead) := by unfold Tp.reset; rw [if_pos hd]
  rw [e1]
  unfold TAPost
  dsimp only
  rw [errD_ne hd]
  have H := Lib.hid h
  clear h e1
  go_enter Tryd.func19, Tryd.ntmps19
  go_wp2_with fail
  refine ha.mono ?_
  rintro e w1 ⟨rfl, rfl⟩
  go_wp2_with fail
  go_ret
  exact ⟨rfl, AftT.refl H.out⟩
set_option maxHeartbeats 1600000 in
theorem reset_any (w : World) (h : TDX w L tg g t D z) (hq : D.q.length ≤ 999000) :
    Calls Tryd.prog 19 #[.pointer (some ⟨tg, 0, none⟩)] w (TAPost w L tg g (t.reset D) z) := by
  by_cases hd : t.dead ≠ 0
  · exact reset_dead w h hd
  have hd0 : t.dead = 0 := by omega
  have ha := alive_any w h
  rw [hd0, errD_nil] at ha
  obtain ⟨o1, o2, o3, o4⟩ := h.ok
  have hz := h.dx.z2
  obtain ⟨c0, c1, c2, c3, c4, c5⟩ := h.c
  have hlt := h.dx.lt
  have hw := twrite_any (t.fr : Nat) (some ⟨w.heap.size, 0, none⟩) 1 1 [0] _ (h.below ((Below.refl _ _).alloc (Nat.le_refl _) (.cells #[.int .u8 0] 5))) ((byte_rd w 0 0 rfl).mono fun b' h6 h7 => by have := hlt b' h7; omega) (by unfold I64; omega) (by omega) (by omega)
  unfold TWPost at hw
  have heq : t.reset D = if (D.safely t.fr [0]).2 ≠ 0 then ({ t with dead := (D.safely t.fr [0]).2 }, D.safely t.fr [0]) else ({ t with p := t.fr, n := 0 }, (D.safely t.fr [0]).1, 0) := by unfold Tp.reset; rw [if_neg hd]
  obtain ⟨r1, hr1⟩ : ∃ r1, r1 = D.safely (t.fr : Nat) [0] := ⟨_, rfl⟩
  rw [← hr1] at hw heq
  have H := Lib.hid h
  have Hd0 := Lib.hid hd0
  clear h hr1 hq hlt hd hd0 c0 c1 c3 c4 c5
  by_cases k1 : r1.2 = 0
  · rw [if_neg (by simpa using k1)] at heq
    rw [k1, errD_nil] at hw
    have Hw := Lib.hid hw
    have Heq := Lib.hid heq
    clear hw heq k1
    go_enter Tryd.func19, Tryd.ntmps19
    go_wp2_with fail
    refine ha.mono ?_
    rintro e w1 ⟨rfl, rfl⟩
    go_wp2_with fail
    refine Hw.out.mono ?_
    rintro e w5 ⟨rfl, haft⟩
    obtain ⟨L5, h5, l5, kp5⟩ := AftT.behind ((Below.refl _ _).alloc (Nat.le_refl _) _) haft
    have ht0 : ({ t with dead := 0 } : Tp) = t := by rw [← Hd0.out]
    rw [ht0] at h5
    obtain ⟨b0, b1, b2, b3, b4, b5⟩ := h5.c
    have f3 := h5.bx.f 3
    have f4 := h5.bx.f 4
    have hset3 : (tcells g t).setIfInBounds 3 (.int .i64 (t.fr : Nat)) = tcells g { t with p := t.fr } := by simp [tcells]
    have hok : Tp.Ok { t with p := t.fr, n := 0 } z := ⟨Nat.le_refl _, by dsimp only; omega, o3, by dsimp only; omega⟩
    have hset34 : ((tcells g t).setIfInBounds 3 (.int .i64 (t.fr : Nat))).setIfInBounds 4 (.int .i64 0) = tcells g { t with p := t.fr, n := 0 } := by simp [tcells]
    have hnl := h5.nl
    have hdx : DX ((w5.setCell ⟨tg, 3, none⟩ (.int .i64 (t.fr : Nat))).setCell ⟨tg, 4, none⟩ (.int .i64 0)) L5 g r1.1 z := h5.dx.keep (fun b hb => by
      have hne : b ≠ tg := fun e => hnl (e ▸ hb)
      rw [Below.heap_setCell _ _ _ b hne, Below.heap_setCell _ _ _ b hne]) (by simp [World.setCell])
    have hfin : AftT w1 L tg g { t with p := t.fr, n := 0 } r1.1 z ((w5.setCell ⟨tg, 3, none⟩ (.int .i64 (t.fr : Nat))).setCell ⟨tg, 4, none⟩ (.int .i64 0)) := ⟨L5, ⟨hdx, by rw [← hset34]; exact (h5.bx.set 3 _).set 4 _, hnl, hok⟩, l5, (kp5.set (p := ⟨tg, 3, none⟩) (.inr rfl) _).set (p := ⟨tg, 4, none⟩) (.inr rfl) _⟩
    have Hfin := Lib.hid hfin
    clear haft h5 l5 kp5 ht0 hset3 hok hset34 hnl hdx hfin b0 b1 b5 Hw
    go_wp2_with fail
    go_ret
    rw [Heq.out]
    exact ⟨rfl, Hfin.out⟩
  · rw [if_pos (by simpa using k1)] at heq
    rw [errD_ne k1] at hw
    have Hw := Lib.hid hw
    have Heq := Lib.hid heq
    have K1 := Lib.hid k1
    clear hw heq k1
    go_enter Tryd.func19, Tryd.ntmps19
    go_wp2_with fail
    refine ha.mono ?_
    rintro e w1 ⟨rfl, rfl⟩
    go_wp2_with fail
    refine Hw.out.mono ?_
    rintro e w5 ⟨rfl, haft⟩
    have hfin := AftT.behind ((Below.refl _ _).alloc (Nat.le_refl _) _) haft
    have Hfin := Lib.hid hfin
    clear haft hfin Hw
    go_wp2_with fail
    go_ret
    rw [Heq.out]
    exact ⟨by rw [errD_ne K1.out]; rfl, Hfin.out⟩
end
end Go.Proofs.YtijgkejknijplaaDoor
