/- Walks of a tape's Append and Reset.
   What a tape's steps leave, in plain words.
   A tape's steps on a disk whose power may go: in plain words.
   A tape's Append and Reset on a disk whose power may go.
   The disk's Arm, Down, Size. -/
import Derived.Test.YtlecglmiigdjlaaGreatDoorZb19
import Derived.Test.YtlecglmiigdjlaaGreatDoorZb17
import Derived.Test.YtlecglmiigdjlaaGreatDoorZb18
namespace Go.Proofs.YtlecglmiigdjlaaGreatDoor
open Go.RowKit
set_option maxRecDepth 100000
set_option linter.unusedVariables false
set_option linter.unusedSimpArgs false
section
variable {W W' W2 : World} {L L' : Nat → Prop} {tg g : Nat} {t t' : Tp} {D D' : Dk} {z : Nat}
def TAPost (W : World) (L : Nat → Prop) (tg g : Nat) (r : Tp × Dk × Int) (z : Nat) (e : Ending) (w' : World) : Prop := e = .returned (errD r.2.2) ∧ AftT W L tg g r.1 r.2.1 z w'
theorem append_dead (A : Option Addr) (n c : Nat) (b : List UInt8) (w : World) (h : TDX w L tg g t D z) (hd : t.dead ≠ 0) :
    Calls Tryz.prog 21 #[.pointer (some ⟨tg, 0, none⟩), .slice A n c] w (TAPost w L tg g (t.append D b) z) := by
  have ha := alive_any w h
  rw [errD_ne hd] at ha
  have e1 : t.append D b = (t, D, t.dead) := by unfold Tp.append; rw [if_pos hd]
  rw [e1]
  unfold TAPost
  dsimp only
  rw [errD_ne hd]
  have H := Lib.hid h
  clear h e1
  go_enter Tryz.func21, Tryz.ntmps21
  go_wp2_with fail
  refine ha.mono ?_
  rintro e w1 ⟨rfl, rfl⟩
  go_wp2_with fail
  go_ret
  exact ⟨rfl, AftT.refl H.out⟩
theorem append_no (A : Option Addr) (n c : Nat) (b : List UInt8) (w : World) (h : TDX w L tg g t D z) (hd : t.dead = 0) (hb : b.length = n) (hn : 1048576 < n ∨ t.room < n) (hmx : n ≤ maxLen) :
    Calls Tryz.prog 21 #[.pointer (some ⟨tg, 0, none⟩), .slice A n c] w (TAPost w L tg g (t.append D b) z) := by
  have ha := alive_any w h
  rw [hd, errD_nil] at ha
  have hrm := room_any w h
  have H := Lib.hid h
  unfold maxLen at hmx
  by_cases h1 : 1048576 < n
  · have e1 : t.append D b = (t, D, 2) := by unfold Tp.append; rw [if_neg (by rw [hd]; decide), if_pos (by omega)]
    have h1I : (1048576 : Int) < n := by omega
    rw [e1]
    unfold TAPost
    dsimp only
    rw [errD_ne (by decide)]
    clear h e1 hn
    go_enter Tryz.func21, Tryz.ntmps21
    go_wp2_with fail
    refine ha.mono ?_
    rintro e w1 ⟨rfl, rfl⟩
    go_wp2_with fail
    go_ret
    exact ⟨rfl, AftT.refl H.out⟩
  · have h2 : t.room < n := by omega
    have e1 : t.append D b = (t, D, 10) := by unfold Tp.append; rw [if_neg (by rw [hd]; decide), if_neg (by omega), if_pos (by rw [hb]; exact h2)]
    have h1I : decide ((1048576 : Int) < n) = false := by simp; omega
    rw [e1]
    unfold TAPost
    dsimp only
    rw [errD_ne (by decide)]
    obtain ⟨R, hR⟩ : ∃ R, R = t.room := ⟨_, rfl⟩
    rw [← hR] at hrm h2
    clear h e1 hn hR
    go_enter Tryz.func21, Tryz.ntmps21
    go_wp2_with fail
    refine ha.mono ?_
    rintro e w1 ⟨rfl, rfl⟩
    go_wp2_with fail
    refine hrm.mono ?_
    rintro e w2 ⟨rfl, k, rfl⟩
    go_wp2_with fail
    go_ret
    exact ⟨rfl, AftT.new H.out ⟨rfl, rfl, rfl, Nat.le_refl _, fun _ _ => rfl⟩⟩
theorem enc4_cells (n : Nat) (h : n ≤ 1048576) : [Value.int .u8 ((n : Int) / 16777216), .int .u8 ((n : Int) / 65536), .int .u8 ((n : Int) / 256 % 256), .int .u8 ((n : Int) % 256)] = bs (enc4 n) := by
  unfold bs enc4
  simp only [List.map_cons, List.map_nil, UInt8.toNat_ofNat', List.cons.injEq, Value.int.injEq, true_and, and_true]
  omega
theorem enc4_own (W : World) (n : Nat) (h : n ≤ 1048576) : (W.alloc (.cells #[Value.int .u8 ((n : Int) / 16777216), .int .u8 ((n : Int) / 65536), .int .u8 ((n : Int) / 256 % 256), .int .u8 ((n : Int) % 256)] 5)).ownsRow W.heap.size 5 1 (.slice (some ⟨W.heap.size, 0, none⟩) 4 4) 4 (bs (enc4 n)) := by
  rw [← enc4_cells n h]
  exact World.ownsRow_lit W _ 4 (Nat.le_refl _) (by unfold maxLen; omega) rfl
theorem byte_rd (W : World) (x : UInt8) (z : Int) (hz : z = x.toNat) : Rd (W.alloc (.cells #[.int .u8 z] 5)) (W.heap.size ≤ ·) 1 (some ⟨W.heap.size, 0, none⟩) 1 (bs [x]) := by
  subst hz
  exact Rd.lit (w := W) (cs := #[.int .u8 x.toNat]) (t := 5) (fr := (0, 0)) rfl
theorem safely_q (D : Dk) (p : Int) (b : List UInt8) : (D.safely p b).1.q.length ≤ D.q.length + 1 := by
  have h1 := write_q D p b
  unfold Dk.safely
  split
  · unfold Dk.sync
    split
    · split
      · have : (D.write p b).1.stepped.q = (D.write p b).1.q := by unfold Dk.stepped; split <;> rfl
        show (D.write p b).1.stepped.q.length ≤ _
        rw [this]
        exact h1
      · exact Nat.zero_le _
    · exact h1
  · exact h1
theorem AftT.cells (h : AftT W L tg g t D z W2) : ∃ L', TDX W2 L' tg g t D z ∧ (∀ b, L' b → L b ∨ W.heap.size ≤ b) ∧ Kept (fun b => L b ∨ b = tg) W W2 := h
set_option maxHeartbeats 3200000 in
theorem append_yes (A : Option Addr) (n c : Nat) (b : List UInt8) (w : World) (h : TDX w L tg g t D z) (hd : t.dead = 0) (hr : Rd w T 1 A n (bs b)) (h1 : n ≤ 1048576) (h2 : (n : Int) ≤ t.room) (hq : D.q.length ≤ 999000) :
    Calls Tryz.prog 21 #[.pointer (some ⟨tg, 0, none⟩), .slice A n c] w (TAPost w L tg g (t.append D b) z) := by
  have hb := hr.blen
  have hbl := hb
  have ha := alive_any w h
  rw [hd, errD_nil] at ha
  have hrm := room_any w h
  obtain ⟨o1, o2, o3, o4⟩ := h.ok
  have hz := h.dx.z2
  have H := Lib.hid h
  have Hr := Lib.hid hr
  have h1I : decide ((1048576 : Int) < n) = false := by simp; omega
  have hroom : t.p + 5 + n ≤ t.en := by
    unfold Tp.room at h2
    split at h2 <;> omega
  obtain ⟨R, hR⟩ : ∃ R, R = t.room := ⟨_, rfl⟩
  rw [← hR] at hrm h2
  have h2I : decide (R < (n : Int)) = false := by simp; omega
  have Hh1 := Lib.hid h1
  have h9 : n ≤ 1048576 := h1
  obtain ⟨out, hout⟩ : ∃ out, out = t.out b := ⟨_, rfl⟩
  have hol : out.length ≤ 1048581 := by rw [hout, Tp.out_len]; split <;> omega
  have s1 : (t.p : Int) + 5 + n < 9223372036854775808 := by omega
  have s2 : -9223372036854775808 ≤ (t.p : Int) + 5 + n := by omega
  have s3 : -9223372036854775808 ≤ (t.en : Int) - ((t.p : Int) + 5 + n) := by omega
  have s4 : (t.en : Int) - ((t.p : Int) + 5 + n) < 9223372036854775808 := by omega
  have heq : t.append D b = if (D.safely (t.p + 1 : Nat) out).2 ≠ 0 then ({ t with dead := (D.safely (t.p + 1 : Nat) out).2 }, D.safely (t.p + 1 : Nat) out) else
      if ((D.safely (t.p + 1 : Nat) out).1.safely t.p [1]).2 ≠ 0 then ({ t with dead := ((D.safely (t.p + 1 : Nat) out).1.safely t.p [1]).2 }, (D.safely (t.p + 1 : Nat) out).1.safely t.p [1]) else
      ({ t with p := t.p + 5 + b.length, n := t.n + 1 }, ((D.safely (t.p + 1 : Nat) out).1.safely t.p [1]).1, 0) := by
    unfold Tp.append
    rw [if_neg (by rw [hd]; decide), if_neg (by omega), if_neg (by rw [← hR]; omega), ← hout]
  have ep : ((t.p + 1 : Nat) : Int) = (t.p : Int) + 1 := by omega
  rw [ep] at heq
  have Heq := Lib.hid heq
  clear ep
  clear h hr hR heq
  have Hout := Lib.hid hout
  have Hhd := Lib.hid hd
  have Hbl := Lib.hid hbl
  clear hout hd hb hbl
  go_enter Tryz.func21, Tryz.ntmps21
  go_wp2_with fail
  refine ha.mono ?_
  rintro e w1 ⟨rfl, rfl⟩
  go_wp2_with fail
  refine hrm.mono ?_
  rintro e w2 ⟨rfl, k, rfl⟩
  have hrd := Hr.out.drewN k
  have hb0 : Below w1.heap.size w1 (w1.drewN k) := ⟨rfl, rfl, rfl, Nat.le_refl _, fun _ _ => rfl⟩
  go_upto_if 55 with (at_builtin; go_must (refine wpList_append_any _ Tryz.underlying33 u8_elem rfl (by omega) rfl rfl rfl (enc4_own (w1.drewN k) n h9) rfl (hrd.alloc _) (bs_one b) (by omega) (by simp) rfl rfl ?_); intro A3 c3 w3 hown3 hg3 hat3; have hb3 : Below w1.heap.size w1 w3 := (hb0.alloc (Nat.le_refl _) _).grown hg3 (by simp) (by simp); have h3 := H.out.below hb3; obtain ⟨d0, d1, d2, d3, d4, d5⟩ := h3.c; have Hb3 := Lib.hid hb3; have H3 := Lib.hid h3; have Hown3 := Lib.hid hown3; clear hb3 h3 hown3 hg3 hat3 d0 d2 d4 d5)
  go_cut [7] (fun s7 W => ∃ A4 c4, s7 = .slice A4 out.length c4 ∧ W.ownsRow w1.heap.size 5 1 (.slice A4 out.length c4) out.length (bs out) ∧ Below w1.heap.size w1 W)
  case first =>
    by_cases h5 : t.p + 5 + n + 5 ≤ t.en
    · have h5I : (5 : Int) ≤ (t.en : Int) - ((t.p : Int) + 5 + n) := by omega
      have ho : out = enc4 n ++ b ++ [0] := by rw [Hout.out]; unfold Tp.out; rw [Hbl.out, if_pos h5]
      have Ho := Lib.hid ho
      clear ho hrd h2 hroom hrm ha hol
      clear s1 s2 s3 s4 hq o1 o2 o3 o4 hz h1I h2I hb0
      go_wp2_with (at_builtin; go_must (refine wpList_append_any _ Tryz.underlying33 u8_elem rfl (by omega) rfl rfl rfl (own_below Hown3.out ((Below.refl _ _).alloc (Nat.le_refl _) _)) rfl (byte_rd w3 0 0 rfl) (bs_one [0]) (by omega) (by have := Hb3.out.size; simp; omega) rfl rfl ?_); intro A4 c4 w4 hown4 hg4 hat4)
      go_meet
      case rel =>
        have e1 : 4 + n + 1 = out.length := by rw [Ho.out]; simp [enc4, Hbl.out]; omega
        have e2 : bs (enc4 n) ++ bs b ++ bs [0] = bs out := by rw [Ho.out, bs_append, bs_append]
        rw [e2, e1] at hown4
        refine ⟨A4, c4, by rw [e1], hown4, (Hb3.out.alloc Hb3.out.size _).grown hg4 (by have := Hb3.out.size; simp; omega) fun g hg => (own_lt Hown3.out g hg).1⟩
    · have h5I : decide ((5 : Int) ≤ (t.en : Int) - ((t.p : Int) + 5 + n)) = false := by simp; omega
      have ho : out = enc4 n ++ b := by rw [Hout.out]; unfold Tp.out; rw [Hbl.out, if_neg h5, List.append_nil]
      have Ho := Lib.hid ho
      clear ho hrd h2 hroom hrm ha hol
      clear s1 s2 s3 s4 hq o1 o2 o3 o4 hz h1I h2I hb0
      go_wp2_with fail
      go_meet
      case rel =>
        have e1 : 4 + n = out.length := by rw [Ho.out]; simp [enc4, Hbl.out]; omega
        have e2 : bs (enc4 n) ++ bs b = bs out := by rw [Ho.out, bs_append]
        have h7 := Hown3.out
        rw [e2, e1] at h7
        exact ⟨A3, c3, by rw [e1], h7, Hb3.out⟩
  case rest =>
    obtain ⟨A4, c4, rfl, hown4, hb4⟩ := hcut
    have h4 := H.out.below hb4
    obtain ⟨d0, d1, d2, d3, d4, d5⟩ := h4.c
    have hlt := H.out.dx.lt
    have hw := twrite_any ((t.p : Int) + 1) A4 out.length c4 out _ h4 ((Rd.of_own hown4).mono fun b' h6 h7 => by have := hlt b' h7; omega) (by unfold I64; omega) (by omega) (by omega)
    unfold TWPost at hw
    have hq1 := safely_q D ((t.p : Int) + 1) out
    have heq := Heq.out
    obtain ⟨r1, hr1⟩ : ∃ r1, r1 = D.safely ((t.p : Int) + 1) out := ⟨_, rfl⟩
    rw [← hr1] at hw hq1 heq
    rw [Hbl.out] at heq
    obtain ⟨m, hm⟩ : ∃ m, m = out.length := ⟨_, rfl⟩
    rw [← hm] at hw ⊢
    have Hb4 := Lib.hid hb4
    have Hq1 := Lib.hid hq1
    have Hq0 := Lib.hid hq
    have Hfacts := Lib.hid (And.intro (And.intro o1 o2) (And.intro (And.intro o3 o4) (And.intro hz hroom)))
    clear hown4 hb4 h4 hr1 hq1 hm hlt Hout Heq hrd hb0 ha hrm hq hol d0 d1 d2 d4 d5
    by_cases k1 : r1.2 = 0
    · rw [if_neg (by simpa using k1)] at heq
      rw [k1, errD_nil] at hw
      have Hw := Lib.hid hw
      have Heq2 := Lib.hid heq
      clear hw heq k1
      go_wp2_with fail
      refine Hw.out.mono ?_
      rintro e w5 ⟨rfl, L5, h5, l5, kp5⟩
      have ht0 : ({ t with dead := 0 } : Tp) = t := by rw [← Hhd.out]
      rw [ht0] at h5
      obtain ⟨b0, b1, b2, b3, b4, b5⟩ := h5.c
      have hlt5 := h5.dx.lt
      have H5 := Lib.hid h5
      have L5' := Lib.hid l5
      have Kp5 := Lib.hid kp5
      have hal := fun ob => (Below.refl w5.heap.size w5).alloc (Nat.le_refl _) ob
      have hw2 := twrite_any (t.p : Nat) (some ⟨w5.heap.size, 0, none⟩) 1 1 [1] _ (h5.below (hal (.cells #[.int .u8 1] 5))) ((byte_rd w5 1 1 rfl).mono fun b' h6 h7 => by have := hlt5 b' h7; omega) (by unfold I64; omega) (by omega) (by have := Hq1.out; have := Hq0.out; omega)
      unfold TWPost at hw2
      obtain ⟨r2, hr2⟩ : ∃ r2, r2 = r1.1.safely t.p [1] := ⟨_, rfl⟩
      rw [← hr2] at hw2
      have heq := Heq2.out
      rw [← hr2] at heq
      clear h5 l5 kp5 hlt5 Hw hr2 Heq2 b1 b2 b4 b5 ht0
      by_cases k2 : r2.2 = 0
      · rw [if_neg (by simpa using k2)] at heq
        rw [k2, errD_nil] at hw2
        have Hw2 := Lib.hid hw2
        have Heq3 := Lib.hid heq
        clear hw2 heq k2
        go_wp2_with fail
        refine Hw2.out.mono ?_
        rintro e w6 ⟨rfl, haft⟩
        obtain ⟨L6, h6, l6, kp6⟩ := AftT.behind (hal _) haft
        have ht0 : ({ t with dead := 0 } : Tp) = t := by rw [← Hhd.out]
        rw [ht0] at h6
        obtain ⟨y0, y1, y2, y3, y4, y5⟩ := h6.c
        have f3 := h6.bx.f 3
        have f4 := h6.bx.f 4
        have H6 := Lib.hid h6
        have L6' := Lib.hid l6
        have Kp6 := Lib.hid kp6
        clear Hw2 haft h6 l6 kp6 ht0 y0 y1 y2 y5 b0 b3 d3
        have hn9 : t.n ≤ 4194304 := by omega
        clear s1 s2 s3 s4 o1 o2 o3 o4 hz h1I h2I h2 hroom
        go_wp2_with fail
        go_ret
        obtain ⟨⟨o1, o2⟩, ⟨o3, o4⟩, hz, hroom⟩ := Hfacts.out
        have hset3 : (tcells g t).setIfInBounds 3 (.int .i64 ((t.p : Int) + 5 + n)) = tcells g { t with p := t.p + 5 + n } := by
          simp [tcells]
        have hok : Tp.Ok { t with p := t.p + 5 + n, n := t.n + 1 } z := ⟨by dsimp only; omega, by dsimp only; omega, o3, by dsimp only; omega⟩
        have hok3 : Tp.Ok { t with p := t.p + 5 + n } z := ⟨by dsimp only; omega, by dsimp only; omega, o3, by dsimp only; omega⟩
        have hset4 : (tcells g { t with p := t.p + 5 + n }).setIfInBounds 4 (.int .i64 ((t.n : Int) + 1)) = tcells g { t with p := t.p + 5 + n, n := t.n + 1 } := by simp [tcells]
        rw [Heq3.out]
        refine ⟨rfl, AftT.behind Hb4.out (AftT.next Kp5.out L5'.out ⟨L6, (H6.out.set (i := 3) hset3 hok3).set (i := 4) hset4 hok, L6'.out, (Kp6.out.set (p := ⟨tg, 3, none⟩) (.inr rfl) _).set (p := ⟨tg, 4, none⟩) (.inr rfl) _⟩)⟩
      · rw [if_pos (by simpa using k2)] at heq
        rw [errD_ne k2] at hw2
        have Hw2 := Lib.hid hw2
        have Heq3 := Lib.hid heq
        have K2 := Lib.hid k2
        clear hw2 heq k2
        go_wp2_with fail
        refine Hw2.out.mono ?_
        rintro e w6 ⟨rfl, haft⟩
        have hfin := AftT.behind Hb4.out (AftT.next Kp5.out L5'.out (AftT.behind ((Below.refl _ _).alloc (Nat.le_refl _) _) haft))
        have Hfin := Lib.hid hfin
        clear Hw2 haft hfin b0 b3 d3
        go_wp2_with fail
        go_ret
        rw [Heq3.out]
        exact ⟨by rw [errD_ne K2.out]; rfl, Hfin.out⟩
    · rw [if_pos (by simpa using k1)] at heq
      rw [errD_ne k1] at hw
      have Hw := Lib.hid hw
      have Heq2 := Lib.hid heq
      have K1 := Lib.hid k1
      clear hw heq k1
      go_wp2_with fail
      refine Hw.out.mono ?_
      rintro e w5 ⟨rfl, haft⟩
      have hfin := AftT.behind Hb4.out haft
      have Hfin := Lib.hid hfin
      clear Hw haft hfin d3
      go_wp2_with fail
      go_ret
      rw [Heq2.out]
      exact ⟨by rw [errD_ne K1.out]; rfl, Hfin.out⟩
theorem append_any (A : Option Addr) (n c : Nat) (b : List UInt8) (w : World) (h : TDX w L tg g t D z) (hr : Rd w T 1 A n (bs b)) (hmx : n ≤ maxLen) (hq : D.q.length ≤ 999000) :
    Calls Tryz.prog 21 #[.pointer (some ⟨tg, 0, none⟩), .slice A n c] w (TAPost w L tg g (t.append D b) z) := by
  by_cases hd : t.dead = 0
  · by_cases h1 : 1048576 < n ∨ t.room < n
    · exact append_no A n c b w h hd hr.blen h1 hmx
    · exact append_yes A n c b w h hd hr (by omega) (by omega) hq
  · exact append_dead A n c b w h hd
theorem reset_dead (w : World) (h : TDX w L tg g t D z) (hd : t.dead ≠ 0) :
    Calls Tryz.prog 69 #[.pointer (some ⟨tg, 0, none⟩)] w (TAPost w L tg g (t.reset D) z) := by
  have ha := alive_any w h
  rw [errD_ne hd] at ha
  have e1 : t.reset D = (t, D, t.dead) := by unfold Tp.reset; rw [if_pos hd]
  rw [e1]
  unfold TAPost
  dsimp only
  rw [errD_ne hd]
  have H := Lib.hid h
  clear h e1
  go_enter Tryz.func69, Tryz.ntmps69
  go_wp2_with fail
  refine ha.mono ?_
  rintro e w1 ⟨rfl, rfl⟩
  go_wp2_with fail
  go_ret
  exact ⟨rfl, AftT.refl H.out⟩
set_option maxHeartbeats 1600000 in
theorem reset_any (w : World) (h : TDX w L tg g t D z) (hq : D.q.length ≤ 999000) :
    Calls Tryz.prog 69 #[.pointer (some ⟨tg, 0, none⟩)] w (TAPost w L tg g (t.reset D) z) := by
  by_cases hd : t.dead ≠ 0
  · exact reset_dead w h hd
  have hd0 : t.dead = 0 := by omega
  have ha := alive_any w h
  rw [hd0, errD_nil] at ha
  obtain ⟨o1, o2, o3, o4⟩ := h.ok
  have hz := h.dx.z2
  obtain ⟨c0, c1, c2, c3, c4, c5⟩ := h.c
  have hlt := h.dx.lt
  have hw := twrite_any (t.fr : Nat) (some ⟨w.heap.size, 0, none⟩) 1 1 [0] _ (h.below ((Below.refl _ _).alloc (Nat.le_refl _) (.cells #[.int .u8 0] 5))) ((byte_rd w 0 0 rfl).mono fun b' h6 h7 => by have := hlt b' h7; omega) (by unfold I64; omega) (by omega) (by omega)
  unfold TWPost at hw
  have heq : t.reset D = if (D.safely t.fr [0]).2 ≠ 0 then ({ t with dead := (D.safely t.fr [0]).2 }, D.safely t.fr [0]) else ({ t with p := t.fr, n := 0 }, (D.safely t.fr [0]).1, 0) := by unfold Tp.reset; rw [if_neg hd]
  obtain ⟨r1, hr1⟩ : ∃ r1, r1 = D.safely (t.fr : Nat) [0] := ⟨_, rfl⟩
  rw [← hr1] at hw heq
  have H := Lib.hid h
  have Hd0 := Lib.hid hd0
  clear h hr1 hq hlt hd hd0 c0 c1 c3 c4 c5
  by_cases k1 : r1.2 = 0
  · rw [if_neg (by simpa using k1)] at heq
    rw [k1, errD_nil] at hw
    have Hw := Lib.hid hw
    have Heq := Lib.hid heq
    clear hw heq k1
    go_enter Tryz.func69, Tryz.ntmps69
    go_wp2_with fail
    refine ha.mono ?_
    rintro e w1 ⟨rfl, rfl⟩
    go_wp2_with fail
    refine Hw.out.mono ?_
    rintro e w5 ⟨rfl, haft⟩
    obtain ⟨L5, h5, l5, kp5⟩ := AftT.behind ((Below.refl _ _).alloc (Nat.le_refl _) _) haft
    have ht0 : ({ t with dead := 0 } : Tp) = t := by rw [← Hd0.out]
    rw [ht0] at h5
    obtain ⟨b0, b1, b2, b3, b4, b5⟩ := h5.c
    have f3 := h5.bx.f 3
    have f4 := h5.bx.f 4
    have hset3 : (tcells g t).setIfInBounds 3 (.int .i64 (t.fr : Nat)) = tcells g { t with p := t.fr } := by simp [tcells]
    have hok : Tp.Ok { t with p := t.fr, n := 0 } z := ⟨Nat.le_refl _, by dsimp only; omega, o3, by dsimp only; omega⟩
    have hset34 : ((tcells g t).setIfInBounds 3 (.int .i64 (t.fr : Nat))).setIfInBounds 4 (.int .i64 0) = tcells g { t with p := t.fr, n := 0 } := by simp [tcells]
    have hnl := h5.nl
    have hdx : DX ((w5.setCell ⟨tg, 3, none⟩ (.int .i64 (t.fr : Nat))).setCell ⟨tg, 4, none⟩ (.int .i64 0)) L5 g r1.1 z := h5.dx.keep (fun b hb => by
      have hne : b ≠ tg := fun e => hnl (e ▸ hb)
      rw [Below.heap_setCell _ _ _ b hne, Below.heap_setCell _ _ _ b hne]) (by simp [World.setCell])
    have hfin : AftT w1 L tg g { t with p := t.fr, n := 0 } r1.1 z ((w5.setCell ⟨tg, 3, none⟩ (.int .i64 (t.fr : Nat))).setCell ⟨tg, 4, none⟩ (.int .i64 0)) := ⟨L5, ⟨hdx, by rw [← hset34]; exact (h5.bx.set 3 _).set 4 _, hnl, hok⟩, l5, (kp5.set (p := ⟨tg, 3, none⟩) (.inr rfl) _).set (p := ⟨tg, 4, none⟩) (.inr rfl) _⟩
    have Hfin := Lib.hid hfin
    clear haft h5 l5 kp5 ht0 hset3 hok hset34 hnl hdx hfin b0 b1 b5 Hw
    go_wp2_with fail
    go_ret
    rw [Heq.out]
    exact ⟨rfl, Hfin.out⟩
  · rw [if_pos (by simpa using k1)] at heq
    rw [errD_ne k1] at hw
    have Hw := Lib.hid hw
    have Heq := Lib.hid heq
    have K1 := Lib.hid k1
    clear hw heq k1
    go_enter Tryz.func69, Tryz.ntmps69
    go_wp2_with fail
    refine ha.mono ?_
    rintro e w1 ⟨rfl, rfl⟩
    go_wp2_with fail
    refine Hw.out.mono ?_
    rintro e w5 ⟨rfl, haft⟩
    have hfin := AftT.behind ((Below.refl _ _).alloc (Nat.le_refl _) _) haft
    have Hfin := Lib.hid hfin
    clear haft hfin Hw
    go_wp2_with fail
    go_ret
    rw [Heq.out]
    exact ⟨by rw [errD_ne K1.out]; rfl, Hfin.out⟩
end
end Go.Proofs.YtlecglmiigdjlaaGreatDoor
namespace Go.Proofs.YtlecglmiigdjlaaGreatDoor
set_option linter.unusedVariables false
set_option linter.unusedSimpArgs false
theorem getD_get {l : List UInt8} {i : Nat} : l.getD i 0 = (l[i]?).getD 0 := by rw [List.getD_eq_getElem?_getD]
/-- Two rows of bytes that agree up to a place. -/
theorem mkAt_eq {l l' : List UInt8} {p : Nat} (h : l'[p]? = l[p]?) : mkAt l' p = mkAt l p := by unfold mkAt; rw [getD_get, getD_get, h]
theorem lnAt_eq {l l' : List UInt8} {p : Nat} (h : ∀ i, p < i → i < p + 5 → l'[i]? = l[i]?) : lnAt l' p = lnAt l p := by
  unfold lnAt
  simp only [getD_get]
  rw [h (p + 1) (by omega) (by omega), h (p + 2) (by omega) (by omega), h (p + 3) (by omega) (by omega), h (p + 4) (by omega) (by omega)]
theorem cutAt_eq {l l' : List UInt8} {p n : Nat} (h : ∀ i, p ≤ i → i < p + n → l'[i]? = l[i]?) : cutAt l' p n = cutAt l p n := by
  unfold cutAt
  apply List.ext_getElem?
  intro i
  rw [List.getElem?_take, List.getElem?_take]
  by_cases hi : i < n
  · rw [if_pos hi, if_pos hi, List.getElem?_drop, List.getElem?_drop, h (p + i) (by omega) (by omega)]
  · rw [if_neg hi, if_neg hi]
theorem recsF_le (l : List UInt8) (e : Nat) : ∀ (f p : Nat), p ≤ (recsF f l p e).2.1 ∧ (p ≤ e → (recsF f l p e).2.1 ≤ e) ∧ p + (recsF f l p e).1.length * 5 ≤ (recsF f l p e).2.1 := by
  intro f
  induction f with
  | zero => intro p; simp [recsF]
  | succ f ih =>
    intro p
    rw [recsF]
    split
    · split
      · simp
      · split
        · simp
        · rename_i h1 h2 h3
          have h4 : ¬ e < p + 5 + lnAt l p := fun h => h3 (.inr h)
          obtain ⟨k1, k2, k3⟩ := ih (p + 5 + lnAt l p)
          refine ⟨?_, fun _ => k2 (by omega), ?_⟩
          · show p ≤ (recsF f l (p + 5 + lnAt l p) e).2.1
            omega
          · show p + ((recsF f l (p + 5 + lnAt l p) e).1.length + 1) * 5 ≤ (recsF f l (p + 5 + lnAt l p) e).2.1
            omega
    · simp
theorem recs_le (l : List UInt8) (p e : Nat) : p ≤ (recs l p e).2.1 ∧ (p ≤ e → (recs l p e).2.1 ≤ e) ∧ p + (recs l p e).1.length * 5 ≤ (recs l p e).2.1 := recsF_le l e (e + 1) p
/-- The records do not hang on what lies behind them, but for a mark 0, or no place. -/
theorem recsF_same {l l' : List UInt8} {e : Nat} : ∀ (f p : Nat), (recsF f l p e).2.2 = false → e + 1 ≤ p + f → (∀ i, p ≤ i → i < (recsF f l p e).2.1 → l'[i]? = l[i]?) → (mkAt l' (recsF f l p e).2.1 = 0 ∨ e < (recsF f l p e).2.1 + 5) → recsF f l' p e = recsF f l p e := by
  intro f
  induction f with
  | zero => intro p _ _ _ _; rfl
  | succ f ih =>
    intro p h hf ha hm
    by_cases h1 : p + 5 ≤ e
    · by_cases h2 : mkAt l p = 0
      · rw [recsF, if_pos h1, if_pos h2] at hm
        rw [recsF, recsF, if_pos h1, if_pos h1, if_pos h2, if_pos (by
          rcases hm with h3 | h3
          · exact h3
          · dsimp only at h3; omega)]
      · by_cases h3 : mkAt l p ≠ 1 ∨ e < p + 5 + lnAt l p
        · rw [recsF, if_pos h1, if_neg h2, if_pos h3] at h
          cases h
        · have hE : recsF (f + 1) l p e = (cutAt l (p + 5) (lnAt l p) :: (recsF f l (p + 5 + lnAt l p) e).1, (recsF f l (p + 5 + lnAt l p) e).2) := by rw [recsF, if_pos h1, if_neg h2, if_neg h3]
          rw [hE] at h ha hm
          dsimp only at h ha hm
          have hle := (recsF_le l e f (p + 5 + lnAt l p)).1
          have e1 : mkAt l' p = mkAt l p := mkAt_eq (ha p (by omega) (by omega))
          have e2 : lnAt l' p = lnAt l p := lnAt_eq fun i h4 h5 => ha i (by omega) (by omega)
          have e3 : cutAt l' (p + 5) (lnAt l p) = cutAt l (p + 5) (lnAt l p) := cutAt_eq fun i h4 h5 => ha i (by omega) (by omega)
          rw [hE, recsF, if_pos h1, e1, e2, if_neg h2, if_neg h3, e3, ih (p + 5 + lnAt l p) h (by omega) (fun i h4 h5 => ha i (by omega) h5) hm]
    · rw [recsF, recsF, if_neg h1, if_neg h1]
theorem recs_same {l l' : List UInt8} {p e : Nat} (h : (recs l p e).2.2 = false) (ha : ∀ i, p ≤ i → i < (recs l p e).2.1 → l'[i]? = l[i]?) (hm : mkAt l' (recs l p e).2.1 = 0 ∨ e < (recs l p e).2.1 + 5) : recs l' p e = recs l p e := recsF_same (e + 1) p h (by omega) ha hm
/-- One record more. -/
theorem recsF_snoc {l l' : List UInt8} {e n : Nat} : ∀ (f p : Nat), (recsF f l p e).2.2 = false → e + 1 ≤ p + f → (∀ i, p ≤ i → i < (recsF f l p e).2.1 → l'[i]? = l[i]?) → mkAt l' (recsF f l p e).2.1 = 1 → lnAt l' (recsF f l p e).2.1 = n → (recsF f l p e).2.1 + 5 + n ≤ e → (mkAt l' ((recsF f l p e).2.1 + 5 + n) = 0 ∨ e < (recsF f l p e).2.1 + 5 + n + 5) →
    (mkAt l (recsF f l p e).2.1 = 0) → recsF f l' p e = ((recsF f l p e).1 ++ [cutAt l' ((recsF f l p e).2.1 + 5) n], (recsF f l p e).2.1 + 5 + n, false) := by
  intro f
  induction f with
  | zero =>
    intro p _ hf _ _ _ h6 _ _
    simp only [recsF] at h6
    omega
  | succ f ih =>
    intro p h hf ha hm hl hn hk h0
    by_cases h1 : p + 5 ≤ e
    · by_cases h2 : mkAt l p = 0
      · have hE : recsF (f + 1) l p e = ([], p, false) := by rw [recsF, if_pos h1, if_pos h2]
        rw [hE] at ha hm hl hn hk ⊢
        dsimp only at ha hm hl hn hk ⊢
        have hm0 : mkAt l' p ≠ 0 := by rw [hm]; decide
        have hnx : recsF f l' (p + 5 + n) e = ([], p + 5 + n, false) := by
          cases f with
          | zero => rfl
          | succ f =>
            rcases hk with h3 | h3
            · rw [recsF]
              by_cases h4 : p + 5 + n + 5 ≤ e
              · rw [if_pos h4, if_pos h3]
              · rw [if_neg h4]
            · rw [recsF, if_neg (by omega)]
        rw [recsF, if_pos h1, if_neg hm0, hl, if_neg (by rw [hm]; simp; omega), hnx]
        rfl
      · by_cases h3 : mkAt l p ≠ 1 ∨ e < p + 5 + lnAt l p
        · rw [recsF, if_pos h1, if_neg h2, if_pos h3] at h
          cases h
        · have hE : recsF (f + 1) l p e = (cutAt l (p + 5) (lnAt l p) :: (recsF f l (p + 5 + lnAt l p) e).1, (recsF f l (p + 5 + lnAt l p) e).2) := by rw [recsF, if_pos h1, if_neg h2, if_neg h3]
          rw [hE] at h ha hm hl hn hk h0 ⊢
          dsimp only at h ha hm hl hn hk h0 ⊢
          have hle := (recsF_le l e f (p + 5 + lnAt l p)).1
          have e1 : mkAt l' p = mkAt l p := mkAt_eq (ha p (by omega) (by omega))
          have e2 : lnAt l' p = lnAt l p := lnAt_eq fun i h4 h5 => ha i (by omega) (by omega)
          have e3 : cutAt l' (p + 5) (lnAt l p) = cutAt l (p + 5) (lnAt l p) := cutAt_eq fun i h4 h5 => ha i (by omega) (by omega)
          rw [recsF, if_pos h1, e1, e2, if_neg h2, if_neg h3, e3, ih (p + 5 + lnAt l p) h (by omega) (fun i h4 h5 => ha i (by omega) h5) hm hl hn hk h0]
          rfl
    · have hE : recsF (f + 1) l p e = ([], p, false) := by rw [recsF, if_neg h1]
      rw [hE] at hn
      dsimp only at hn
      omega
theorem recs_snoc {l l' : List UInt8} {p e n : Nat} (h : (recs l p e).2.2 = false) (ha : ∀ i, p ≤ i → i < (recs l p e).2.1 → l'[i]? = l[i]?) (hm : mkAt l' (recs l p e).2.1 = 1) (hl : lnAt l' (recs l p e).2.1 = n) (hn : (recs l p e).2.1 + 5 + n ≤ e) (hk : mkAt l' ((recs l p e).2.1 + 5 + n) = 0 ∨ e < (recs l p e).2.1 + 5 + n + 5)
    (h0 : mkAt l (recs l p e).2.1 = 0) : recs l' p e = ((recs l p e).1 ++ [cutAt l' ((recs l p e).2.1 + 5) n], (recs l p e).2.1 + 5 + n, false) := recsF_snoc (e + 1) p h (by omega) ha hm hl hn hk h0
/-- Where the records end well, a mark 0 lies there, or there is no place. -/
theorem recsF_last {l : List UInt8} {e : Nat} : ∀ (f p : Nat), (recsF f l p e).2.2 = false → e + 1 ≤ p + f → mkAt l (recsF f l p e).2.1 = 0 ∨ e < (recsF f l p e).2.1 + 5 := by
  intro f
  induction f with
  | zero => intro p _ hf; simp only [recsF]; omega
  | succ f ih =>
    intro p h hf
    by_cases h1 : p + 5 ≤ e
    · by_cases h2 : mkAt l p = 0
      · rw [recsF, if_pos h1, if_pos h2]; exact .inl h2
      · by_cases h3 : mkAt l p ≠ 1 ∨ e < p + 5 + lnAt l p
        · rw [recsF, if_pos h1, if_neg h2, if_pos h3] at h
          cases h
        · have hE : recsF (f + 1) l p e = (cutAt l (p + 5) (lnAt l p) :: (recsF f l (p + 5 + lnAt l p) e).1, (recsF f l (p + 5 + lnAt l p) e).2) := by rw [recsF, if_pos h1, if_neg h2, if_neg h3]
          rw [hE] at h ⊢
          exact ih _ h (by omega)
    · rw [recsF, if_neg h1]
      right
      show e < p + 5
      omega
theorem recs_last {l : List UInt8} {p e : Nat} (h : (recs l p e).2.2 = false) : mkAt l (recs l p e).2.1 = 0 ∨ e < (recs l p e).2.1 + 5 := recsF_last (e + 1) p h (by omega)
/-- The records of a part. -/
theorem recsF_cut {l : List UInt8} {a s : Nat} (ha : a + s ≤ l.length) : ∀ (f p : Nat), recsF f (cutAt l a s) p s = ((recsF f l (a + p) (a + s)).1, (recsF f l (a + p) (a + s)).2.1 - a, (recsF f l (a + p) (a + s)).2.2) := by
  intro f
  induction f with
  | zero => intro p; simp [recsF]
  | succ f ih =>
    intro p
    have hg : ∀ i, i < s → (cutAt l a s)[i]? = l[a + i]? := fun i hi => by unfold cutAt; rw [List.getElem?_take, if_pos hi, List.getElem?_drop]
    by_cases h1 : p + 5 ≤ s
    · have e1 : mkAt (cutAt l a s) p = mkAt l (a + p) := by unfold mkAt; rw [getD_get, getD_get, hg p (by omega)]
      have e2 : lnAt (cutAt l a s) p = lnAt l (a + p) := by
        unfold lnAt
        simp only [getD_get]
        rw [hg (p + 1) (by omega), hg (p + 2) (by omega), hg (p + 3) (by omega), hg (p + 4) (by omega)]
        rfl
      have h1' : a + p + 5 ≤ a + s := by omega
      by_cases h2 : mkAt l (a + p) = 0
      · rw [recsF, recsF, if_pos h1, if_pos h1', e1, if_pos h2, if_pos h2]
        simp
      · by_cases h3 : mkAt l (a + p) ≠ 1 ∨ s < p + 5 + lnAt l (a + p)
        · have h3' : mkAt l (a + p) ≠ 1 ∨ a + s < a + p + 5 + lnAt l (a + p) := h3.imp id (by omega)
          rw [recsF, recsF, if_pos h1, if_pos h1', e1, e2, if_neg h2, if_neg h2, if_pos h3, if_pos h3']
          simp
        · have h3' : ¬ (mkAt l (a + p) ≠ 1 ∨ a + s < a + p + 5 + lnAt l (a + p)) := fun h => h3 (h.imp id (by omega))
          have hns : ¬ s < p + 5 + lnAt l (a + p) := fun h => h3 (.inr h)
          have e3 : cutAt (cutAt l a s) (p + 5) (lnAt l (a + p)) = cutAt l (a + p + 5) (lnAt l (a + p)) := by
            unfold cutAt
            rw [List.drop_take, List.take_take, List.drop_drop]
            congr 1
            omega
          have e4 : a + (p + 5 + lnAt l (a + p)) = a + p + 5 + lnAt l (a + p) := by omega
          rw [recsF, recsF, if_pos h1, if_pos h1', e1, e2, if_neg h2, if_neg h2, if_neg h3, if_neg h3', e3, ih (p + 5 + lnAt l (a + p)), e4]
    · have h1' : ¬ a + p + 5 ≤ a + s := by omega
      rw [recsF, recsF, if_neg h1, if_neg h1']
      simp
theorem recs_cut {l : List UInt8} {a s : Nat} (ha : a + s ≤ l.length) : recs (cutAt l a s) 0 s = ((recs l a (a + s)).1, (recs l a (a + s)).2.1 - a, (recs l a (a + s)).2.2) := by
  rw [recs_eq l a (a + s) (s + 1) (by omega) (by omega)]
  exact recsF_cut ha (s + 1) 0
/-- The length's four bytes. -/
theorem lnAt_enc {l : List UInt8} {p n : Nat} (hn : n ≤ 1048576) (h : ∀ i, i < 4 → l[p + 1 + i]? = (enc4 n)[i]?) : lnAt l p = n := by
  have h0 := h 0 (by omega)
  have h1 := h 1 (by omega)
  have h2 := h 2 (by omega)
  have h3 := h 3 (by omega)
  unfold lnAt
  simp only [getD_get]
  have e1 : p + 1 = p + 1 + 0 := by omega
  have e2 : p + 2 = p + 1 + 1 := by omega
  have e3 : p + 3 = p + 1 + 2 := by omega
  have e4 : p + 4 = p + 1 + 3 := by omega
  rw [e1, e2, e3, e4, h0, h1, h2, h3]
  simp only [enc4, List.getElem?_cons_zero, List.getElem?_cons_succ, Option.getD_some, UInt8.toNat_ofNat']
  omega
end Go.Proofs.YtlecglmiigdjlaaGreatDoor
namespace Go.Proofs.YtlecglmiigdjlaaGreatDoor
set_option linter.unusedVariables false
set_option linter.unusedSimpArgs false
/-- The power is there, nothing waits. -/
structure Dk.Calm (D : Dk) (z : Nat) : Prop where
  ok : D.Ok z
  off : D.off = false
  q : D.q = []
theorem Dk.Calm.now {D : Dk} {z : Nat} (h : D.Calm z) : D.now = D.safe := by rw [h.ok.now, h.q]; rfl
def Dk.crash (D : Dk) (p : Nat) (b : List UInt8) : Dk := { safe := D.safe, now := splice D.now p b, q := [(p, b)], armed := 0, off := true }
def Dk.wrote (D : Dk) (p : Nat) (b : List UInt8) : Dk := { safe := splice D.now p b, now := splice D.now p b, q := [], armed := max 0 (max 0 (D.armed - 1) - 1), off := false }
section
variable {D : Dk} {z p : Nat} {b : List UInt8}
theorem Dk.Calm.withE (h : D.Calm z) (hp : p + b.length ≤ z) : D.withE p b.length = 0 := (Dk.withE_iff h.ok).2 ⟨by omega, h.off⟩
theorem Dk.Calm.safely (h : D.Calm z) (hp : p + b.length ≤ z) : ((D.armed = 1 ∨ D.armed = 2) ∧ D.safely p b = (D.crash p b, 13)) ∨ ((D.armed = 0 ∨ 3 ≤ D.armed) ∧ D.safely p b = (D.wrote p b, 0) ∧ (D.wrote p b).Calm z) := by
  have hw := h.withE hp
  have hlo := h.ok.lo
  unfold Dk.safely Dk.write
  rw [if_pos hw]
  have hpn : (p : Int).toNat = p := by simp
  rw [hpn]
  by_cases h1 : D.armed = 1
  · left
    refine ⟨.inl h1, ?_⟩
    have e1 : D.stepE = 13 := by unfold Dk.stepE; rw [if_pos h1]
    rw [e1, if_neg (show ¬ (13 : Int) = 0 by decide)]
    unfold Dk.stepped
    rw [if_pos (show (D.put p b).armed = 1 from h1)]
    unfold Dk.put Dk.crash
    rw [h.q]
    rfl
  · have e1 : D.stepE = 0 := by unfold Dk.stepE; rw [if_neg h1]
    have e2 : (D.put p b).stepped = { D with now := splice D.now p b, q := [(p, b)], armed := max 0 (D.armed - 1) } := by
      unfold Dk.stepped
      rw [if_neg (show ¬ (D.put p b).armed = 1 from h1)]
      unfold Dk.put
      rw [h.q]
      rfl
    rw [e1, if_pos rfl, e2]
    have hok2 : Dk.Ok { D with now := splice D.now p b, q := [(p, b)], armed := max 0 (D.armed - 1) } z := by
      rw [← e2]
      exact (h.ok.put hp).stepped
    have hw0 : Dk.withE { D with now := splice D.now p b, q := [(p, b)], armed := max 0 (D.armed - 1) } 0 0 = 0 := (Dk.withE_iff hok2).2 ⟨by omega, h.off⟩
    unfold Dk.sync
    rw [if_pos hw0]
    by_cases h2 : D.armed = 2
    · left
      refine ⟨.inr h2, ?_⟩
      have e3 : max 0 (D.armed - 1) = 1 := by omega
      rw [if_pos (show max 0 (D.armed - 1) = 1 from e3)]
      unfold Dk.stepped
      rw [if_pos (show max 0 (D.armed - 1) = 1 from e3)]
      rfl
    · right
      have e3 : ¬ max 0 (D.armed - 1) = 1 := by omega
      refine ⟨by omega, ?_, ?_⟩
      · rw [if_neg (show ¬ max 0 (D.armed - 1) = 1 from e3)]
        unfold Dk.stepped
        rw [if_neg (show ¬ max 0 (D.armed - 1) = 1 from e3)]
        unfold Dk.settled Dk.wrote
        dsimp only
        have : lain D.safe [(p, b)] = splice D.now p b := by rw [h.now]; rfl
        rw [this, h.off]
      · refine ⟨⟨?_, ?_, rfl, ?_, ?_⟩, rfl, rfl⟩
        · show (splice D.now p b).length = z
          rw [splice_ln (by rw [h.now, h.ok.safe]; exact hp), h.now, h.ok.safe]
        · intro x hx; cases hx
        · show 0 ≤ max 0 (max 0 (D.armed - 1) - 1); omega
        · show max 0 (max 0 (D.armed - 1) - 1) ≤ _
          have := h.ok.hi
          omega
theorem keptQ_one (keep : List Int) : lain D.safe (keptQ [(p, b)] keep) = D.safe ∨ ∃ k, k ≤ b.length ∧ lain D.safe (keptQ [(p, b)] keep) = splice D.safe p (b.take k) := by
  unfold keptQ
  have hr := restL_lt (keep := keep) (i := 0) (m := 1)
  rw [show [(p, b)].length + 1 = 1 + 1 from rfl]
  by_cases h0 : restL keep 0 (1 + 1) = 0
  · rw [h0]
    right
    refine ⟨restL keep 1 (b.length + 1), restL_lt, ?_⟩
    rfl
  · have h1 : restL keep 0 (1 + 1) = 1 := by omega
    rw [h1]
    right
    exact ⟨b.length, Nat.le_refl _, by rw [List.take_length]; rfl⟩
theorem Dk.started_calm (h : D.Ok z) (keep : List Int) : (D.started keep).Calm z := ⟨h.started, rfl, rfl⟩
theorem Dk.Calm.crash_started (h : D.Calm z) (keep : List Int) : ∃ k, k ≤ b.length ∧ ((D.crash p b).started keep).now = splice D.now p (b.take k) := by
  show ∃ k, k ≤ b.length ∧ lain D.safe (keptQ [(p, b)] keep) = _
  rw [h.now]
  rcases keptQ_one (D := D) (p := p) (b := b) keep with h1 | h1
  · exact ⟨0, Nat.zero_le _, by rw [h1]; simp [splice]⟩
  · exact h1
theorem Dk.Calm.crash_ok (h : D.Calm z) (hp : p + b.length ≤ z) : (D.crash p b).Ok z := by
  refine ⟨h.ok.safe, ?_, ?_, by show (0 : Int) ≤ 0; omega, by show (0 : Int) ≤ _; omega⟩
  · intro x hx
    obtain rfl := List.mem_singleton.1 hx
    exact hp
  · show splice D.now p b = lain D.safe [(p, b)]
    rw [h.now]
    rfl
end
theorem splice_comm (l out : List UInt8) (p : Nat) (x : UInt8) (h : p + 1 + out.length ≤ l.length) : splice (splice l (p + 1) out) p [x] = splice l p (x :: out) := by
  have h1 : (splice l (p + 1) out).length = l.length := splice_ln (by omega)
  apply List.ext_getElem?
  intro i
  by_cases h2 : p ≤ i ∧ i < p + 1 + out.length
  · obtain ⟨k, rfl⟩ : ∃ k, i = p + k := ⟨i - p, by omega⟩
    rw [splice_in (l := l) (cs := x :: out) (by simp; omega) (by simp; omega)]
    cases k with
    | zero => rw [splice_in (by simp; omega) (by simp)]; rfl
    | succ k =>
      rw [splice_off (by first | (simp; done) | (simp; omega)) (by first | (simp; done) | (simp; omega))]
      have : p + (k + 1) = p + 1 + k := by omega
      rw [this, splice_in (by omega) (by omega)]
      simp
  · rw [splice_off (l := l) (cs := x :: out) (by simp; omega) (by simp; omega), splice_off (by simp; omega) (by simp; omega), splice_off (by omega) (by omega)]
section
variable {l b : List UInt8} {fr p e n : Nat} {rs : List (List UInt8)}
/-- What lies behind the mark does not count. -/
theorem recs_part {d : List UInt8} (h : recs l fr e = (rs, p, false)) (hd : p + 1 + d.length ≤ l.length) : recs (splice l (p + 1) d) fr e = (rs, p, false) := by
  have h1 : (recs l fr e).2.2 = false := by rw [h]
  have h2 := recs_last h1
  have hp : (recs l fr e).2.1 = p := by rw [h]
  rw [← h]
  apply recs_same h1
  · intro i _ hi
    rw [hp] at hi
    exact splice_off (by omega) (by omega)
  · rw [hp] at h2 ⊢
    rcases h2 with h2 | h2
    · left
      rw [mkAt_eq (l := l) (splice_off (by omega) (by omega)), h2]
    · exact .inr h2
/-- The whole record. -/
theorem recs_put {t : Tp} (h : recs l t.fr t.en = (rs, t.p, false)) (hb : b.length ≤ 1048576) (hr : t.p + 5 + b.length ≤ t.en) (he : t.en ≤ l.length) : recs (splice l t.p (1 :: t.out b)) t.fr t.en = (rs ++ [b], t.p + 5 + b.length, false) := by
  have h1 : (recs l t.fr t.en).2.2 = false := by rw [h]
  have h2 := recs_last h1
  have hp : (recs l t.fr t.en).2.1 = t.p := by rw [h]
  have hl := t.out_len b
  have hfit : t.p + (1 :: t.out b).length ≤ l.length := by
    simp only [List.length_cons, hl]
    split <;> omega
  have hin : ∀ k, k < (t.out b).length → (splice l t.p (1 :: t.out b))[t.p + 1 + k]? = (t.out b)[k]? := by
    intro k hk
    have : t.p + 1 + k = t.p + (k + 1) := by omega
    rw [this, splice_in hfit (by simp; omega)]
    simp
  have h04 : ∀ i, i < 4 → (t.out b)[i]? = (enc4 b.length)[i]? := by
    intro i hi
    unfold Tp.out
    rw [List.append_assoc, List.getElem?_append_left (by simp [enc4]; omega)]
  have h4n : ∀ i, i < b.length → (t.out b)[4 + i]? = b[i]? := by
    intro i hi
    unfold Tp.out
    rw [List.append_assoc, List.getElem?_append_right (by first | (simp [enc4]; done) | (simp [enc4]; omega)), List.getElem?_append_left (by first | (simp [enc4]; done) | (simp [enc4]; omega))]
    congr 1
    simp [enc4]
  have key := recs_snoc (l := l) (l' := splice l t.p (1 :: t.out b)) (p := t.fr) (e := t.en) (n := b.length) h1 (fun i _ hi => by rw [hp] at hi; exact splice_off hfit (by omega)) ?_ ?_ (by rw [hp]; omega) ?_ ?_
  · rw [key, hp, h]
    dsimp only
    congr 2
    congr 1
    unfold cutAt
    apply List.ext_getElem?
    intro i
    rw [List.getElem?_take]
    by_cases hi : i < b.length
    · rw [if_pos hi, List.getElem?_drop]
      have : t.p + 5 + i = t.p + 1 + (4 + i) := by omega
      rw [this, hin _ (by rw [hl]; omega), h4n i hi]
    · rw [if_neg hi, List.getElem?_eq_none (by omega)]
  · rw [hp]
    unfold mkAt
    have := splice_in (l := l) (cs := 1 :: t.out b) (p := t.p) (k := 0) hfit (by simp)
    rw [getD_get]
    rw [Nat.add_zero] at this
    rw [this]
    rfl
  · rw [hp]
    exact lnAt_enc hb fun i hi => by rw [hin i (by rw [hl]; omega), h04 i hi]
  · rw [hp]
    by_cases h3 : t.p + 5 + b.length + 5 ≤ t.en
    · left
      unfold mkAt
      rw [getD_get]
      have e5 : t.p + 5 + b.length = t.p + 1 + (4 + b.length) := by omega
      rw [e5, hin _ (by rw [hl, if_pos h3]; omega)]
      unfold Tp.out
      rw [if_pos h3, List.getElem?_append_right (by simp [enc4]; omega)]
      have e6 : 4 + b.length - (enc4 b.length ++ b).length = 0 := by simp [enc4]; omega
      rw [e6]
      rfl
    · exact .inr (by omega)
  · rw [hp] at h2 ⊢
    rcases h2 with h2 | h2
    · exact h2
    · omega
/-- No record. -/
theorem recs_cleared (h : fr < l.length) : recs (splice l fr [0]) fr e = ([], fr, false) := by
  apply recs_end
  unfold mkAt
  have := splice_in (l := l) (cs := [(0 : UInt8)]) (p := fr) (k := 0) (by simp; omega) (by simp)
  rw [Nat.add_zero] at this
  rw [getD_get, this]
  rfl
theorem cut_splice {c : List UInt8} {a s q : Nat} (h1 : q + c.length ≤ s) (h2 : a + s ≤ l.length) : cutAt (splice l (a + q) c) a s = splice (cutAt l a s) q c := by
  have hlen : (cutAt l a s).length = s := by unfold cutAt; simp; omega
  apply List.ext_getElem?
  intro i
  have hg : ∀ l' : List UInt8, (cutAt l' a s)[i]? = if i < s then l'[a + i]? else none := fun l' => by unfold cutAt; rw [List.getElem?_take]; split; rw [List.getElem?_drop]; rfl
  by_cases h3 : q ≤ i ∧ i < q + c.length
  · obtain ⟨k, rfl⟩ : ∃ k, i = q + k := ⟨i - q, by omega⟩
    rw [splice_in (by omega) (by omega), hg, if_pos (by omega), show a + (q + k) = a + q + k by omega, splice_in (by omega) (by omega)]
  · rw [splice_off (by omega) h3, hg, hg]
    by_cases h4 : i < s
    · rw [if_pos h4, if_pos h4, splice_off (by omega) (by omega)]
    · rw [if_neg h4, if_neg h4]
end
end Go.Proofs.YtlecglmiigdjlaaGreatDoor
namespace Go.Proofs.YtlecglmiigdjlaaGreatDoor
set_option linter.unusedVariables false
set_option linter.unusedSimpArgs false
section
variable {D : Dk} {z : Nat} {t : Tp} {b : List UInt8}
theorem Dk.Calm.wrote_len (h : D.Calm z) : D.now.length = z := by rw [h.now, h.ok.safe]
/-- What the steps of an Append leave when the power goes within them. -/
structure Cut (D' : Dk) (z : Nat) (P : List UInt8 → Prop) : Prop where
  ok : D'.Ok z
  off : D'.off = true
  q : D'.q.length ≤ 1
  st : ∀ keep, P (D'.started keep).now
theorem append_cases (h : D.Calm z) (hd : t.dead = 0) (hb : b.length ≤ 1048576) (hr : t.p + 5 + b.length ≤ t.en) (he : t.en ≤ z) :
    (∃ D', t.append D b = ({ t with p := t.p + 5 + b.length, n := t.n + 1 }, D', 0) ∧ D'.Calm z ∧ D'.now = splice D.now t.p (1 :: t.out b) ∧ (D.armed = 0 → D'.armed = 0)) ∨
    (D.armed ≠ 0 ∧ ∃ D', t.append D b = ({ t with dead := 13 }, D', 13) ∧ Cut D' z fun l => (∃ k, k ≤ (t.out b).length ∧ l = splice D.now (t.p + 1) ((t.out b).take k)) ∨ l = splice D.now t.p (1 :: t.out b)) := by
  have hol := t.out_len b
  have hfit1 : t.p + 1 + (t.out b).length ≤ z := by rw [hol]; split <;> omega
  have hfit2 : t.p + [(1 : UInt8)].length ≤ z := by simp; omega
  have heq : t.append D b = if (D.safely (t.p + 1 : Nat) (t.out b)).2 ≠ 0 then ({ t with dead := (D.safely (t.p + 1 : Nat) (t.out b)).2 }, D.safely (t.p + 1 : Nat) (t.out b)) else
      if ((D.safely (t.p + 1 : Nat) (t.out b)).1.safely t.p [1]).2 ≠ 0 then ({ t with dead := ((D.safely (t.p + 1 : Nat) (t.out b)).1.safely t.p [1]).2 }, (D.safely (t.p + 1 : Nat) (t.out b)).1.safely t.p [1]) else
      ({ t with p := t.p + 5 + b.length, n := t.n + 1 }, ((D.safely (t.p + 1 : Nat) (t.out b)).1.safely t.p [1]).1, 0) := by
    have hroom : ¬ t.room < b.length := by unfold Tp.room; rw [if_pos (by omega)]; omega
    unfold Tp.append
    rw [if_neg (by rw [hd]; decide), if_neg (by omega), if_neg hroom]
  have hlen := h.wrote_len
  have hcomm := splice_comm D.now (t.out b) t.p 1 (by omega)
  rcases h.safely hfit1 with ⟨ha, h1⟩ | ⟨ha, h1, h2⟩
  · right
    rw [h1] at heq
    rw [if_pos (by show (13 : Int) ≠ 0; decide)] at heq
    refine ⟨by omega, _, heq, ?_, rfl, Nat.le_refl _, fun keep => .inl (h.crash_started keep)⟩
    exact h.crash_ok hfit1
  · rw [h1] at heq
    rw [if_neg (by show ¬ ((0 : Int) ≠ 0); decide)] at heq
    dsimp only at heq
    rcases h2.safely hfit2 with ⟨hb1, h3⟩ | ⟨hb1, h3, h4⟩
    · right
      rw [h3] at heq
      rw [if_pos (by show (13 : Int) ≠ 0; decide)] at heq
      refine ⟨?_, _, heq, h2.crash_ok hfit2, rfl, Nat.le_refl _, fun keep => ?_⟩
      · intro h0
        have : (D.wrote (t.p + 1) (t.out b)).armed = max 0 (max 0 (D.armed - 1) - 1) := rfl
        omega
      · obtain ⟨k, hk, e⟩ := h2.crash_started (p := t.p) (b := [1]) keep
        rw [e]
        show _ ∨ splice (splice D.now (t.p + 1) (t.out b)) t.p ([1].take k) = _
        match k, hk with
        | 0, _ =>
          left
          refine ⟨(t.out b).length, Nat.le_refl _, ?_⟩
          rw [List.take_length]
          show splice (splice D.now (t.p + 1) (t.out b)) t.p [] = _
          simp [splice]
        | 1, _ => exact .inr hcomm
        | k + 2, hk => simp at hk
    · left
      rw [h3] at heq
      rw [if_neg (by show ¬ ((0 : Int) ≠ 0); decide)] at heq
      refine ⟨_, heq, h4, hcomm, fun h0 => ?_⟩
      show max 0 (max 0 (max 0 (max 0 (D.armed - 1) - 1) - 1) - 1) = 0
      omega
theorem append_full (hd : t.dead = 0) (hb : b.length ≤ 1048576) (hr : ¬ t.p + 5 + b.length ≤ t.en) : t.append D b = (t, D, 10) := by
  have hroom : t.room < b.length := by unfold Tp.room; split <;> omega
  unfold Tp.append
  rw [if_neg (by rw [hd]; decide), if_neg (by omega), if_pos hroom]
theorem append_dead_eq (hd : t.dead ≠ 0) : t.append D b = (t, D, t.dead) := by unfold Tp.append; rw [if_pos hd]
theorem reset_cases (h : D.Calm z) (hd : t.dead = 0) (hf : t.fr + 1 ≤ z) :
    (∃ D', t.reset D = ({ t with p := t.fr, n := 0 }, D', 0) ∧ D'.Calm z ∧ D'.now = splice D.now t.fr [0] ∧ (D.armed = 0 → D'.armed = 0)) ∨
    (D.armed ≠ 0 ∧ ∃ D', t.reset D = ({ t with dead := 13 }, D', 13) ∧ Cut D' z fun l => l = D.now ∨ l = splice D.now t.fr [0]) := by
  have heq : t.reset D = if (D.safely t.fr [0]).2 ≠ 0 then ({ t with dead := (D.safely t.fr [0]).2 }, D.safely t.fr [0]) else ({ t with p := t.fr, n := 0 }, (D.safely t.fr [0]).1, 0) := by
    unfold Tp.reset
    rw [if_neg (by rw [hd]; decide)]
  have hfit : t.fr + [(0 : UInt8)].length ≤ z := by simp; omega
  rcases h.safely hfit with ⟨ha, h1⟩ | ⟨ha, h1, h2⟩
  · right
    rw [h1] at heq
    rw [if_pos (by show (13 : Int) ≠ 0; decide)] at heq
    refine ⟨by omega, _, heq, h.crash_ok hfit, rfl, Nat.le_refl _, fun keep => ?_⟩
    obtain ⟨k, hk, e⟩ := h.crash_started (p := t.fr) (b := [0]) keep
    rw [e]
    match k, hk with
    | 0, _ => left; simp [splice]
    | 1, _ => exact .inr rfl
    | k + 2, hk => simp at hk
  · left
    rw [h1] at heq
    rw [if_neg (by show ¬ ((0 : Int) ≠ 0); decide)] at heq
    refine ⟨_, heq, h2, rfl, fun h0 => ?_⟩
    show max 0 (max 0 (D.armed - 1) - 1) = 0
    omega
end
end Go.Proofs.YtlecglmiigdjlaaGreatDoor
namespace Go.Proofs.YtlecglmiigdjlaaGreatDoor
open Go.RowKit
set_option maxRecDepth 100000
set_option linter.unusedVariables false
set_option linter.unusedSimpArgs false
theorem DS.rearm {W : World} {L : Nat → Prop} {g : Nat} {D : Dk} {z s o cS cO : Nat} {Q : Option Addr} {nq cQ : Nat} {qs : List Wq} (h : DS W L g D z s o cS cO Q nq cQ qs) (a : Int) : DS (W.setCell ⟨g, 3, none⟩ (.int .i64 a)) L g { D with armed := a } z s o cS cO Q nq cQ qs :=
  h.flags (h.bx.set 3 _) (Only.set W ⟨g, 3, none⟩ _ rfl)
def ArmPost (W : World) (L : Nat → Prop) (g : Nat) (D : Dk) (z : Nat) (n : Int) (e : Ending) (w' : World) : Prop := e = .returned (errD (D.arm n).2) ∧ Aft W L g (D.arm n).1 z w'
theorem arm_any {L : Nat → Prop} {g : Nat} {D : Dk} {z : Nat} (n : Int) (w : World) (h : DX w L g D z) (hn : I64 n) :
    Calls Tryz.prog 23 #[.pointer (some ⟨g, 0, none⟩), .int .i64 n] w (ArmPost w L g D z n) := by
  obtain ⟨s, o, cS, cO, Q, nq, cQ, qs, h, hk⟩ := h
  have hok := hk.arm (n := n) hn.2
  unfold ArmPost
  unfold I64 at hn
  have c3 := h.c.2.2.2.1
  have f3 := h.bx.f 3
  have hlg := h.lg
  have H := Lib.hid h
  unfold Dk.arm at hok ⊢
  by_cases h0 : n < 0
  · rw [if_pos h0] at hok ⊢
    have hx := h.x hk
    clear h
    dsimp only
    rw [errD_ne (by decide)]
    go_enter Tryz.func23, Tryz.ntmps23
    go_wp2_with fail
    go_ret
    exact ⟨rfl, Aft.new hx (by first | exact Below.refl _ _ | exact (Below.refl _ _).drew)⟩
  · rw [if_neg h0] at hok ⊢
    dsimp only at hok ⊢
    rw [errD_nil]
    have Hok := Lib.hid hok
    clear hok h
    by_cases h1 : n < 4611686018427387904
    · have e1 : (if n < 4611686018427387904 then n + 1 else n) = n + 1 := if_pos h1
      have h2 := (H.out.rearm n).rearm (n + 1)
      have H2 := Lib.hid h2
      rw [e1] at Hok ⊢
      have hkk : Kept L w ((w.setCell ⟨g, 3, none⟩ (.int .i64 n)).setCell ⟨g, 3, none⟩ (.int .i64 (n + 1))) := ((Kept.refl L w).set hlg _).set hlg _
      have Hkk := Lib.hid hkk
      clear h2 hkk e1
      go_enter Tryz.func23, Tryz.ntmps23
      go_wp2_with fail
      go_ret
      exact ⟨rfl, L, H2.out.x Hok.out, fun b hb => .inl hb, Hkk.out⟩
    · have e1 : (if n < 4611686018427387904 then n + 1 else n) = n := if_neg h1
      have h2 := H.out.rearm n
      have H2 := Lib.hid h2
      rw [e1] at Hok ⊢
      have hkk : Kept L w (w.setCell ⟨g, 3, none⟩ (.int .i64 n)) := (Kept.refl L w).set hlg _
      have Hkk := Lib.hid hkk
      clear h2 hkk e1
      go_enter Tryz.func23, Tryz.ntmps23
      go_wp2_with fail
      go_ret
      exact ⟨rfl, L, H2.out.x Hok.out, fun b hb => .inl hb, Hkk.out⟩
theorem down_any {L : Nat → Prop} {g : Nat} {D : Dk} {z : Nat} (w : World) (h : DX w L g D z) :
    Calls Tryz.prog 24 #[.pointer (some ⟨g, 0, none⟩)] w (fun e w' => e = .returned (.bool D.off) ∧ w' = w) := by
  obtain ⟨s, o, cS, cO, Q, nq, cQ, qs, h, hk⟩ := h
  have c4 := h.c.2.2.2.2
  clear h
  go_enter Tryz.func24, Tryz.ntmps24
  go_wp2_with fail
  go_ret
  exact ⟨rfl, rfl⟩
theorem size_any {L : Nat → Prop} {g : Nat} {D : Dk} {z : Nat} (w : World) (h : DX w L g D z) :
    Calls Tryz.prog 33 #[.pointer (some ⟨g, 0, none⟩)] w (fun e w' => e = .returned (.int .i64 (z : Nat)) ∧ w' = w) := by
  obtain ⟨s, o, cS, cO, Q, nq, cQ, qs, h, hk⟩ := h
  have c0 := h.c.1
  clear h
  go_enter Tryz.func33, Tryz.ntmps33
  go_wp2_with fail
  go_ret
  exact ⟨rfl, rfl⟩
end Go.Proofs.YtlecglmiigdjlaaGreatDoor
