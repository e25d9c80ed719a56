/- Walk of tollbarlaw18.NetCuts. -/
import Derived.Test.YtaamdocibbpnkaaSure
import Derived.Test.YtaamdocibbpnkaaArith
import Derived.BigQuiet
namespace Go.Proofs.Ytaamdocibbpnkaa
open Go.RowKit
set_option linter.unusedVariables false
set_option linter.unusedSimpArgs false
structure Pr where
  a : Int
  b : Int
def prc (x : Pr) : List Value := [.int .i64 x.a, .int .i64 x.b]
theorem prc_len (x : Pr) : (prc x).length = 2 := rfl
theorem pr_cells {w : World} {ok : Nat → Prop} {n : Nat} {A : Option Addr} {l : List Pr} (h : Rd w ok 2 A n (flat prc l)) {j : Nat} (hj : j < n) : ∃ b o x, A = some ⟨b, o, none⟩ ∧ ok b ∧ b < w.heap.size ∧ l[j]? = some x ∧
    w.cell? ⟨b, o + j * 2, none⟩ = some (.int .i64 x.a) ∧ w.cell? ⟨b, o + j * 2 + 1, none⟩ = some (.int .i64 x.b) := by
  obtain ⟨b, o, x, hA, hb, hlt, hx, hc⟩ := h.fat prc_len (by omega) hj
  exact ⟨b, o, x, hA, hb, hlt, hx, hc 0 _ rfl, hc 1 _ rfl⟩
structure CInv (w : World) (a b : Int) (i : Nat) (off : Bool) (f : Int → Int → Int) (wr : World) : Prop where
  ns : NS wr (w.heap.size + 1) w.heap.size 100 0 i f none 0 0 []
  of : f (min a b) (max a b) = if off then 1 else 0
  be : Below w.heap.size w wr
theorem CInv.below {w : World} {a b : Int} {i : Nat} {off : Bool} {f : Int → Int → Int} {wr w1 : World} (h : CInv w a b i off f wr) (hb : Below wr.heap.size wr w1) : CInv w a b i off f w1 :=
  ⟨h.ns.below hb, h.of, h.be.trans (hb.mono h.be.size)⟩
theorem upd_hit {a b x y z : Int} {f : Int → Int → Int} (h : (x = a ∧ y = b) ∨ (x = b ∧ y = a)) : upd f (min x y) (max x y) z (min a b) (max a b) = z := by
  unfold upd
  rw [if_pos (by omega)]
theorem upd_miss {a b x y z : Int} {f : Int → Int → Int} (h : ¬ ((x = a ∧ y = b) ∨ (x = b ∧ y = a))) : upd f (min x y) (max x y) z (min a b) (max a b) = f (min a b) (max a b) := by
  unfold upd
  rw [if_neg (by omega)]
set_option maxRecDepth 100000 in
set_option maxHeartbeats 3200000 in
theorem cuts_walk (A : Option Addr) (n c : Nat) (l : List Pr) (za zb : Int) (w : World) (hl : Rd w (· < w.heap.size) 2 A n (flat prc l)) (mL : n ≤ 9223372036854775807) :
    Calls Try.prog 3 #[.slice A n c, .int .i64 za, .int .i64 zb] w (YesPost w) := by
  obtain ⟨a, ha1, ha2, -, ea⟩ := one_uint_mod za 5 5 rfl (by omega) (by omega)
  obtain ⟨b, hb1, hb2, -, eb⟩ := one_uint_mod zb 5 5 rfl (by omega) (by omega)
  go_enter Try.func3, Try.ntmps3
  go_wp2_with fail
  refine (new_any 100 w (by omega) (by omega)).mono ?_
  rintro e w1 ⟨rfl, hn1, hbe1⟩
  have hinv : CInv w a b 0 false (fun _ _ => 0) w1 := ⟨hn1, rfl, hbe1⟩
  clear hn1 hbe1
  go_wp2_with fail
  simp only [ea, eb]
  clear ea eb
  go_loopg [11, 12, 13, 14, 15] 41 (fun m s11 s12 s13 s14 s15 wr => ∃ (i : Nat) (off : Bool) (f : Int → Int → Int), m = 41 - i ∧ i ≤ 40 ∧ s12 = .int .i64 (i : Nat) ∧ s11 = .bool off ∧ CInv w a b i off f wr)
  case atStart => exact ⟨0, false, _, by omega, by omega, rfl, rfl, hinv⟩
  case round =>
    obtain ⟨i, off, f, hm, hi, rfl, rfl, hv⟩ := hrel
    clear hinv
    have Hm := Lib.hid hm
    clear hm
    have Hv := Lib.hid hv
    by_cases hin : i < n ∧ i < 40
    · obtain ⟨hin, hi40⟩ := hin
      obtain ⟨b', o, x, rfl, hbl, _, hx, hd0, hd1⟩ := pr_cells (hl.below (hv.be.mono (Nat.le_refl _))) hin
      clear hx hv
      have hinI : (i : Int) < n := by omega
      have hi40I : (i : Int) < 40 := by omega
      have h0i : (0 : Int) ≤ i := by omega
      obtain ⟨x1, hx1, hx2, -, ex⟩ := one_uint_mod x.a 5 5 rfl (by omega) (by omega)
      obtain ⟨y1, hy1, hy2, -, ey⟩ := one_uint_mod x.b 5 5 rfl (by omega) (by omega)
      go_upto_region 9 with (fail)
      go_cut [13, 14] (fun s13 s14 W => s13 = .int .i64 (x1 : Nat) ∧ s14 = .int .i64 (y1 : Nat) ∧ Below wr.heap.size wr W)
      case first =>
        go_quiet (fail)
        go_wp2_with fail
        simp only [ex, ey]
        go_meet
        case rel => exact ⟨rfl, rfl, below_drewN (Below.refl _ _) _⟩
      case rest =>
        obtain ⟨rfl, rfl, hb3⟩ := hcut
        have hv3 := Hv.out.below hb3
        have Hv3 := Lib.hid hv3
        clear hd0 hd1 hb3 hv3 ex ey Hv
        go_upto_region 10 with (fail)
        go_cut [15] (fun s15 W => (∃ q, s15 = .bool q) ∧ Below wc.heap.size wc W)
        case first =>
          go_wp2_with fail
          go_meet
          case rel => exact ⟨⟨_, rfl⟩, Below.refl _ _⟩
        case rest =>
        obtain ⟨⟨q, rfl⟩, hb5⟩ := hcut
        replace Hv3 := Lib.hid (Hv3.out.below hb5)
        go_wp2_with fail
        refine (cut_any (w.heap.size + 1) w.heap.size 100 0 i f none 0 0 [] x1 y1 q _ Hv3.out.ns (by omega) (by omega) (by omega) (by omega) (by omega)).mono ?_
        rintro e w2 ⟨rfl, hn2, hb2⟩
        have hbe2 := Hv3.out.be.trans (hb2.mono (Nat.le_refl _))
        have Hof := Lib.hid Hv3.out.of
        have Hn2 := Lib.hid hn2
        clear hn2 hb2 Hv3
        have hvn : ∃ f', CInv w a b (i + 1) (bif (((x1 : Int) == a) && ((y1 : Int) == b)) || (((x1 : Int) == b) && ((y1 : Int) == a)) then q else off) f' w2 := by
          by_cases ht : ((x1 : Int) = a ∧ (y1 : Int) = b) ∨ ((x1 : Int) = b ∧ (y1 : Int) = a)
          · have e : ((((x1 : Int) == a) && ((y1 : Int) == b)) || (((x1 : Int) == b) && ((y1 : Int) == a))) = true := by simp only [Bool.or_eq_true, Bool.and_eq_true, beq_iff_eq]; exact ht
            rw [e]
            exact ⟨_, Hn2.out, upd_hit ht, hbe2⟩
          · have e : ((((x1 : Int) == a) && ((y1 : Int) == b)) || (((x1 : Int) == b) && ((y1 : Int) == a))) = false := by rw [← Bool.not_eq_true]; simp only [Bool.or_eq_true, Bool.and_eq_true, beq_iff_eq]; exact ht
            rw [e]
            exact ⟨_, Hn2.out, (upd_miss ht).trans Hof.out, hbe2⟩
        obtain ⟨f', hvn⟩ := hvn
        clear Hof Hn2 hbe2
        obtain ⟨e1, g1⟩ : ∃ e, ((x1 : Int) == (a : Int)) = e := ⟨_, rfl⟩
        obtain ⟨e2, g2⟩ : ∃ e, ((y1 : Int) == (b : Int)) = e := ⟨_, rfl⟩
        obtain ⟨e3, g3⟩ : ∃ e, ((x1 : Int) == (b : Int)) = e := ⟨_, rfl⟩
        obtain ⟨e4, g4⟩ : ∃ e, ((y1 : Int) == (a : Int)) = e := ⟨_, rfl⟩
        rw [g1, g2, g3, g4] at hvn
        have Hvn := Lib.hid hvn
        clear hvn
        cases e1 <;> cases e2 <;> cases e3 <;> cases e4
        all_goals
          go_wp2_with fail
          go_roundg (40 - i)
          case measure => have := Hm.out; omega
          case rel => exact ⟨i + 1, _, f', by omega, by omega, by go_num, rfl, Hvn.out⟩
    · have hst : ¬ ((i : Int) < n) ∨ ((i : Int) < n ∧ ¬ ((i : Int) < 40)) := by omega
      have h40 : 0 ≤ 40 := by omega
      have hbe := hv.be
      cases off
      · have hof : f (min (a : Int) b) (max (a : Int) b) = 0 := hv.of
        have hof2 : f (min (b : Int) a) (max (b : Int) a) = 0 := by rw [Int.min_comm, Int.max_comm]; exact hof
        rcases hst with hst | ⟨hst, hst2⟩
        all_goals
          go_wp2_with fail
          refine (put_yes (w.heap.size + 1) w.heap.size 100 0 i f none 0 0 [] a b none 0 0 [] wr Hv.out.ns (by omega) (by omega) (by omega) (by omega) (by omega) hof Rd.none_ (by omega) (by omega) (by omega) (by omega)).mono ?_
          rintro e w2 ⟨rfl, ⟨A2, c2, x2, hn2⟩, hb2⟩
          have hbe2 := hbe.trans (hb2.mono (Nat.le_refl _))
          have Hn2 := Lib.hid hn2
          clear hn2
          go_wp2_with fail
          refine (put_yes (w.heap.size + 1) w.heap.size 100 _ i f A2 _ c2 x2 b a none 0 0 [] w2 Hn2.out (by omega) (by omega) (by omega) (by omega) (by omega) hof2 Rd.none_ (by omega) (by omega) (by omega) (by omega)).mono ?_
          rintro e w3 ⟨rfl, ⟨A3, c3, x3, hn3⟩, hb3⟩
          have hbe3 := hbe2.trans (hb3.mono (Nat.le_refl _))
          clear hn3
          go_wp2_with fail
          refine (sure_any w3).mono ?_
          rintro e w4 ⟨rfl, hb4⟩
          go_wp2_with fail
          go_ret
          exact ⟨rfl, hbe3.trans (hb4.mono hbe3.size)⟩
      · have hof : f (min (a : Int) b) (max (a : Int) b) = 1 := hv.of
        have hof2 : f (min (b : Int) a) (max (b : Int) a) = 1 := by rw [Int.min_comm, Int.max_comm]; exact hof
        rcases hst with hst | ⟨hst, hst2⟩
        all_goals
          go_wp2_with fail
          refine (put_no (w.heap.size + 1) w.heap.size 100 0 i f none 0 0 [] a b none 0 0 wr Hv.out.ns (by omega) (by omega) (by omega) (by omega) (by omega) (by rw [hof]; omega)).mono ?_
          rintro e w2 ⟨rfl, hn2, hb2⟩
          have hbe2 := hbe.trans (hb2.mono (Nat.le_refl _))
          have Hn2 := Lib.hid hn2
          clear hn2
          go_wp2_with fail
          refine (put_no (w.heap.size + 1) w.heap.size 100 0 i f none 0 0 [] b a none 0 0 w2 Hn2.out (by omega) (by omega) (by omega) (by omega) (by omega) (by rw [hof2]; omega)).mono ?_
          rintro e w3 ⟨rfl, hn3, hb3⟩
          have hbe3 := hbe2.trans (hb3.mono (Nat.le_refl _))
          clear hn3
          go_wp2_with fail
          refine (sure_any w3).mono ?_
          rintro e w4 ⟨rfl, hb4⟩
          go_wp2_with fail
          go_ret
          exact ⟨rfl, hbe3.trans (hb4.mono hbe3.size)⟩
end Go.Proofs.Ytaamdocibbpnkaa
