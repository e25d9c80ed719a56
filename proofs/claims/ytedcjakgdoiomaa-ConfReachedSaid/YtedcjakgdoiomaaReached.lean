/- Walk of tollbarlaw10.ConfReached. -/
import Derived.Test.YtedcjakgdoiomaaSure
import Derived.Test.YtedcjakgdoiomaaConf5
import Derived.Deep.RegionHeld3
namespace Go.Proofs.Ytedcjakgdoiomaa
open Go.RowKit
set_option linter.unusedVariables false
set_option linter.unusedSimpArgs false
def ChkPost (W : World) (b : Bool) (e : Ending) (w' : World) : Prop := e = .returned (if b then .nilIface else .iface 50 (.int .i64 1)) ∧ W = w'
theorem check_any (A : Option Addr) (n c : Nat) (l : List Int) (w : World) {ok : Nat → Prop} (hr : Rd w ok 1 A n (ii l)) (hn : n ≤ 1000000) :
    Calls Try.prog 17 #[.slice A n c] w (ChkPost w (cmay l)) := by
  have hmay := may_any A n c l w hr hn
  generalize cmay l = q at hmay
  have Hmay := Lib.hid hmay
  clear hr hmay
  go_enter Try.func17, Try.ntmps17
  go_wp2_with fail
  refine Hmay.out.mono ?_
  rintro e w1 ⟨rfl, rfl⟩
  cases q
  all_goals
    go_wp2_with fail
    go_ret
    exact ⟨rfl, rfl⟩
theorem reached_far (A : Option Addr) (n c : Nat) (B : Option Addr) (m d : Nat) (w : World) (h : 300 < (n : Int) ∨ ((n : Int) ≤ 300 ∧ 100 < (m : Int))) :
    Calls Try.prog 5 #[.slice A n c, .slice B m d] w (YesPost w) := by
  rcases h with h | ⟨h0, h⟩
  all_goals
    try have h0d : decide (300 < (n : Int)) = false := decide_eq_false (by omega)
    go_enter Try.func5, Try.ntmps5
    go_wp2_with fail
    refine (sure_any _).mono ?_
    rintro e w1 ⟨rfl, hb1⟩
    go_wp2_with fail
    go_ret
    exact ⟨rfl, hb1⟩
set_option maxRecDepth 10000 in
set_option maxHeartbeats 3200000 in
theorem reached_walk (A : Option Addr) (n c : Nat) (l : List Int) (B : Option Addr) (m d : Nat) (ms : List Mk) (w : World) {ok ok' : Nat → Prop} (hr : Rd w ok 1 A n (ii l)) (hs : Rd w ok' 2 B m (flat mkc ms)) (hn : (n : Int) ≤ 300) (hm : (m : Int) ≤ 100) :
    Calls Try.prog 5 #[.slice A n c, .slice B m d] w (YesPost w) := by
  have hnd : decide (300 < (n : Int)) = false := decide_eq_false (by omega)
  have hmd : decide (100 < (m : Int)) = false := decide_eq_false (by omega)
  have hown := fun (W : World) (hb : Below w.heap.size w W) => own_any A n c l W (hr.below hb) (by omega)
  have hchk := fun (W : World) A c (h1 : Rd W T 1 A n (ii l)) => check_any A n c l W h1 (by omega)
  have hmk := fun (W : World) (hb : Below w.heap.size w W) => marks_any B m d ms W (hs.below hb) (by omega)
  have hag := fun (W : World) A c B d (h1 : Rd W T 1 A n (ii l)) (h2 : Rd W T 2 B m (flat mkc ms)) => agreed_any A n c l B m d ms W h1 (by omega) h2 (by omega)
  have hqu := fun (W : World) A c B k d s (h1 : Rd W T 1 A n (ii l)) (h2 : Rd W T 1 B k (ii s)) (hk : k ≤ 1000000) => quorum_any A n c l B k d s W h1 (by omega) h2 hk
  have hqs := fun z (hc : cmay l = true) (hz : (0 : Int) < z) => quor_some (l := ms) hc hz
  have hnn := agreed_nn l ms
  have Hls := Lib.hid (hs.flen mkc_len (by omega))
  generalize agreed l ms = V at hag hqs hnn
  generalize cmay l = cm at hchk hqs
  have Hown := Lib.hid hown
  have Hchk := Lib.hid hchk
  have Hmk := Lib.hid hmk
  have Hag := Lib.hid hag
  have Hqu := Lib.hid hqu
  have Hqs := Lib.hid hqs
  have Hs := Lib.hid hs
  clear hr hs hown hchk hmk hag hqu hqs
  go_enter Try.func5, Try.ntmps5
  go_wp2_with fail
  refine (Hown.out w (Below.refl _ _)).mono ?_
  rintro e w1 ⟨A1, c1, rfl, ho1, hb⟩
  have R1 := Lib.hid (Rd.of_own ho1).any
  clear ho1
  go_wp2_with fail
  refine (Hchk.out w1 A1 c1 R1.out).mono ?_
  rintro e w2 ⟨rfl, rfl⟩
  clear R1
  cases cm
  · go_wp2_with fail
    refine (sure_any _).mono ?_
    rintro e w2 ⟨rfl, hb2⟩
    go_wp2_with fail
    go_ret
    exact ⟨rfl, hb.trans (hb2.mono hb.size)⟩
  · go_wp2_with fail
    refine (Hown.out w1 hb).mono ?_
    rintro e w2 ⟨A1, c1, rfl, ho1, hb2⟩
    have R1 := Lib.hid (Rd.of_own ho1).any
    replace hb := hb.trans (hb2.mono hb.size)
    clear ho1 hb2
    go_wp2_with fail
    refine (Hmk.out w2 hb).mono ?_
    rintro e w3 ⟨A2, c2, rfl, ho2, hb2⟩
    have R2 := Lib.hid ho2.any
    replace R1 := Lib.hid (R1.out.below hb2)
    replace hb := hb.trans (hb2.mono hb.size)
    clear ho2 hb2
    go_wp2_with fail
    refine (Hag.out w3 A1 c1 A2 c2 R1.out R2.out).mono ?_
    rintro e w4 ⟨rfl, hb2⟩
    replace hb := hb.trans (hb2.mono hb.size)
    clear R1 R2 hb2
    have hnnd : decide (V < 0) = false := decide_eq_false (by omega)
    have Hb := Lib.hid hb
    clear hb
    go_wp2_with fail
    go_loopg [6, 7, 8] m (fun r s6 s7 s8 wr => ∃ i : Nat, r = m - i ∧ i ≤ m ∧ s6 = .int .i64 i ∧ Below w.heap.size w wr)
    case atStart => exact ⟨0, by omega, by omega, rfl, Hb.out⟩
    case round =>
      obtain ⟨i, hrm, hi, rfl, hb⟩ := hrel
      have Hrm := Lib.hid hrm
      have Hb := Lib.hid hb
      clear hrm hb
      obtain ⟨wo, rfl⟩ : ∃ wo, wo = wr := ⟨_, rfl⟩
      by_cases hlt : i < m
      · have hltI : (i : Int) < m := by omega
        obtain ⟨b, o, x, rfl, _, hbl, hx, hc0, hc2⟩ := mk_cells (Hs.out.below Hb.out) hlt
        have Hx := Lib.hid hx
        clear hx hc0
        generalize hxn : x.n = nn at hc2
        have Hxn := Lib.hid hxn
        have Hc2 := Lib.hid hc2
        clear hxn hc2
        go_wp2_with fail
        go_loopg [7, 8] m (fun r s7 s8 wr2 => ∃ (k : Nat) (A' : Option Addr) (c' q : Nat), r = m - k ∧ k ≤ m ∧ s8 = .int .i64 k ∧ s7 = .slice A' q c' ∧ q ≤ k ∧ wr2.ownsRow wo.heap.size 3 1 (.slice A' q c') q (ii (someOf nn (ms.take k))) ∧ Below wo.heap.size wo wr2)
        case atStart => exact ⟨0, none, 0, 0, by omega, by omega, rfl, rfl, by omega, World.ownsRow_nil _ _ _ _, Below.refl _ _⟩
        case round =>
          obtain ⟨k, A', c', q, hrm2, hk, rfl, rfl, hqk, hown, hb3⟩ := hrel
          have Hrm2 := Lib.hid hrm2
          have hc3 : wr.cell? ⟨b, o + i * 2 + 1, none⟩ = some (.int .i64 nn) := (hb3.cell (p := ⟨b, o + i * 2 + 1, none⟩) hbl).trans Hc2.out
          clear hrm2
          by_cases hltk : k < m
          · obtain ⟨b', o', y, e', _, _, hy, hd0, hd1⟩ := mk_cells ((Hs.out.below Hb.out).below hb3) hltk
            obtain ⟨rfl, rfl⟩ : b = b' ∧ o = o' := by injection e' with e'; injection e' with e1 e2 _; exact ⟨e1, e2⟩
            have hsa := some_at hy nn
            have hltkI : (k : Int) < m := by omega
            have hz3 := hb3.size
            clear hy e'
            by_cases hge : nn ≤ y.n
            · rw [if_pos hge] at hsa
              have hsa2 : ii (someOf nn (ms.take (k + 1))) = ii (someOf nn (ms.take k)) ++ [.int .i64 y.m] := by rw [hsa, ii_append]; rfl
              have Hsa := Lib.hid hsa2
              clear hsa hsa2
              go_wp2_with fail
              go_quiet (fail)
              go_wp2_with (at_builtin; refine wpList_append_any (news := [.int .i64 y.m]) _ Try.underlying22 int_elem rfl (by omega) rfl rfl rfl ((own_below hown (below_drewN (Below.refl _ _) _)).alloc _) rfl (Rd.blit rfl).any (by intro u hu; simp only [List.mem_cons, List.not_mem_nil, or_false] at hu; rcases hu with rfl; rfl) (by omega) (by simp; omega) rfl rfl ?_; intro A1 c1 w1 hown1 hg1 hat1)
              go_roundg (m - (k + 1))
              case measure => have := Hrm2.out; omega
              case rel => exact ⟨k + 1, A1, c1, q + 1, rfl, by omega, by go_num, rfl, by omega, by rw [Hsa.out]; exact hown1, ((below_drewN hb3 _).alloc (by simp; omega) _).grown hg1 (by simp; omega) (fun k hk => (own_lt hown k hk).1)⟩
            · have hgd : decide (nn ≤ y.n) = false := decide_eq_false hge
              rw [if_neg hge, List.append_nil] at hsa
              have Hsa := Lib.hid hsa
              clear hsa
              go_wp2_with fail
              go_quiet (fail)
              go_wp2_with fail
              go_roundg (m - (k + 1))
              case measure => have := Hrm2.out; omega
              case rel => exact ⟨k + 1, A', c', q, rfl, by omega, by go_num, rfl, by omega, by rw [Hsa.out]; exact hown, below_drewN hb3 _⟩
          · obtain rfl : k = m := by omega
            rw [List.take_of_length_le (Nat.le_of_eq Hls.out)] at hown
            have hbw3 := Hb.out.trans (hb3.mono Hb.out.size)
            have Rs := Lib.hid (Rd.of_own hown).any
            have Hbw3 := Lib.hid hbw3
            clear hown hbw3 hb3
            by_cases hpos : 0 < nn
            · have hq := Hqs.out nn trivial hpos
              have Hq := Lib.hid hq
              clear hq
              go_wp2_with fail
              have hlw := World.block_lt_of_cell? _ _ hc3
              have sof : ∀ W, Below wr.heap.size wr W → (Below wr.heap.size wr W ∧ W.cell? ⟨b, o + i * 2 + 1, none⟩ = some (.int .i64 nn)) := fun W hb => ⟨hb, (hb.cell (p := ⟨b, o + i * 2 + 1, none⟩) hlw).trans hc3⟩
              go_region_held3 (fun W => Below wr.heap.size wr W ∧ W.cell? ⟨b, o + i * 2 + 1, none⟩ = some (.int .i64 nn)) ((refine sof _ ?_; first | exact (Below.refl _ _).drew | assumption | (go_split_ands; assumption) | (go_split_ands; exact Below.trans (by assumption) (Below.mono (by assumption) (Below.size (by assumption)))))) (first
                | (go_at_call 12; refine (Hown.out _ (Hbw3.out.trans (Below.mono (by go_split_ands; assumption) Hbw3.out.size))).mono ?_; rintro e w5 ⟨A5, c5, rfl, ho5, hb5⟩)
                | (go_at_call 15; refine (Hqu.out _ A5 c5 _ _ _ _ (Rd.of_own ho5).any (Rs.out.below (by go_split_ands; assumption)) (by omega)).mono ?_; rintro e w6 ⟨rfl, rfl⟩; rw [Hq.out]))
              all_goals
                have hne2 : (decide (nn ≤ V) != decide (nn ≤ V)) = false := by simp
                go_wp2_with fail
                go_roundg (k - (i + 1))
                case measure => have := Hrm.out; omega
                case rel => exact ⟨i + 1, rfl, by omega, by go_num, Hbw3.out.trans (Below.mono (by go_split_ands; assumption) Hbw3.out.size)⟩
            · have hpd : decide (0 < nn) = false := decide_eq_false hpos
              go_wp2_with fail
              go_quiet (fail)
              go_wp2_with fail
              go_roundg (k - (i + 1))
              case measure => have := Hrm.out; omega
              case rel => exact ⟨i + 1, rfl, by omega, by go_num, below_drewN Hbw3.out _⟩
      · obtain rfl : i = m := by omega
        go_wp2_with fail
        refine (sure_any _).mono ?_
        rintro e w2 ⟨rfl, hb2⟩
        go_wp2_with fail
        go_ret
        exact ⟨rfl, Hb.out.trans (hb2.mono Hb.out.size)⟩
end Go.Proofs.Ytedcjakgdoiomaa
