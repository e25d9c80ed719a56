/- Walks: what is agreed, the document's; sure. -/
import Derived.Test.YtedcjakgdoiomaaConf4
import Derived.Test.YtedcjakgdoiomaaConf2R
namespace Go.Proofs.Ytedcjakgdoiomaa
open Go.RowKit
set_option maxRecDepth 100000
set_option linter.unusedVariables false
set_option linter.unusedSimpArgs false
set_option maxHeartbeats 3200000 in
theorem agreedR_any (A : Option Addr) (n c : Nat) (l : List Int) (B : Option Addr) (m d : Nat) (ms : List Mk) (w : World) {ok ok' : Nat → Prop} (hr : Rd w ok 1 A n (ii l)) (hn : n ≤ 1000000) (hs : Rd w ok' 2 B m (flat mkc ms)) (hm : m ≤ 1000000) :
    Calls Try.prog 14 #[.slice A n c, .slice B m d] w (IntPost w (agreed l ms)) := by
  have Hl := Lib.hid (ii_len hr)
  have Hls := Lib.hid (hs.flen mkc_len (by omega))
  have hmay := fun (W : World) (hb : Below w.heap.size w W) => mayR_any A n c l W (hr.below hb) hn
  have hquo := fun (W : World) (hb : Below w.heap.size w W) A' k c' s' (ok'' : Nat → Prop) (h : Rd W ok'' 1 A' k (ii s')) (hk : k ≤ 1000000) => quorumR_any A n c l A' k c' s' W (hr.below hb) hn h hk
  have Hmay := Lib.hid hmay
  have Hquo := Lib.hid hquo
  have Hs := Lib.hid hs
  clear hmay hr hs hquo
  obtain ⟨V, hV⟩ : ∃ V, V = agreed l ms := ⟨_, rfl⟩
  rw [← hV]
  have hV0 : 0 ≤ V := by rw [hV]; exact agreed_nn _ _
  have HV := Lib.hid hV
  clear hV
  go_enter Try.func14, Try.ntmps14
  go_wp2_with fail
  go_loopg [5, 6, 7, 8, 9] m (fun r s5 s6 s7 s8 s9 wr => ∃ (i : Nat) (best : Int), r = m - i ∧ i ≤ m ∧ s6 = .int .i64 i ∧ s5 = .int .i64 best ∧ 0 ≤ best ∧ best ≤ V ∧ (∀ x ∈ ms.take i, x.n ≤ V → x.n ≤ best) ∧ Below w.heap.size w wr)
  case atStart => exact ⟨0, 0, by omega, by omega, rfl, rfl, by omega, hV0, by simp, Below.refl _ _⟩
  case round =>
    obtain ⟨i, best, hrm, hi, rfl, rfl, hb0, hbV, hall, hb⟩ := hrel
    have Hrm := Lib.hid hrm
    have Hall := Lib.hid hall
    have Hb := Lib.hid hb
    clear hrm hall hb
    by_cases hlt : i < m
    · have hltI : (i : Int) < m := by omega
      go_wp2_with fail
      refine (Hmay.out _ Hb.out).mono ?_
      rintro e w2 ⟨rfl, hb2⟩
      have hbw2 := Hb.out.trans (hb2.mono Hb.out.size)
      rcases hc1 : cmay l with _ | _
      · have hv : V = 0 := by rw [HV.out]; unfold agreed; rw [hc1]; rfl
        have hbz : best = 0 := by omega
        subst hbz
        subst hv
        clear hc1
        go_wp2_with fail
        go_ret
        exact ⟨rfl, hbw2⟩
      · have Hc1 := Lib.hid hc1
        clear hc1
        obtain ⟨b, o, x, rfl, _, _, hx, hc0, hc2⟩ := mk_cells (Hs.out.below hbw2) hlt
        have Hx := Lib.hid hx
        have Hbw2 := Lib.hid hbw2
        clear hx hb2 hbw2
        generalize hxn : x.n = nn at hc2
        have Hxn := Lib.hid hxn
        clear hxn
        go_wp2_with fail
        go_loopg [8, 9] m (fun r s8 s9 wr2 => ∃ (k : Nat) (A' : Option Addr) (c' q : Nat), r = m - k ∧ k ≤ m ∧ s9 = .int .i64 k ∧ s8 = .slice A' q c' ∧ q ≤ k ∧ wr2.ownsRow w2.heap.size 3 1 (.slice A' q c') q (ii (someOf nn (ms.take k))) ∧ Below w2.heap.size w2 wr2)
        case atStart => exact ⟨0, none, 0, 0, by omega, by omega, rfl, rfl, by omega, World.ownsRow_nil _ _ _ _, Below.refl _ _⟩
        case round =>
          obtain ⟨k, A', c', q, hrm2, hk, rfl, rfl, hqk, hown, hb3⟩ := hrel
          have Hrm2 := Lib.hid hrm2
          clear hrm2
          by_cases hltk : k < m
          · obtain ⟨b', o', y, e', _, _, hy, hd0, hd1⟩ := mk_cells ((Hs.out.below Hbw2.out).below hb3) hltk
            obtain ⟨rfl, rfl⟩ : b = b' ∧ o = o' := by injection e' with e'; injection e' with e1 e2 _; exact ⟨e1, e2⟩
            have hsa := some_at hy nn
            have hltkI : (k : Int) < m := by omega
            have hz3 := hb3.size
            clear hy e'
            by_cases hge : nn ≤ y.n
            · rw [if_pos hge] at hsa
              have hsa2 : ii (someOf nn (ms.take (k + 1))) = ii (someOf nn (ms.take k)) ++ [.int .i64 y.m] := by rw [hsa, ii_append]; rfl
              have Hsa := Lib.hid hsa2
              clear hsa hsa2
              go_wp2_with (at_builtin; refine wpList_append_any (news := [.int .i64 y.m]) _ Try.underlying22 int_elem rfl (by omega) rfl rfl rfl (hown.alloc _) rfl (Rd.blit rfl).any (by intro u hu; simp only [List.mem_cons, List.not_mem_nil, or_false] at hu; rcases hu with rfl; rfl) (by omega) (by simp; omega) rfl rfl ?_; intro A1 c1 w1 hown1 hg1 hat1)
              go_roundg (m - (k + 1))
              case measure => have := Hrm2.out; omega
              case rel => exact ⟨k + 1, A1, c1, q + 1, rfl, by omega, by go_num, rfl, by omega, by rw [Hsa.out]; exact hown1, (hb3.alloc (by omega) _).grown hg1 (by simp; omega) (fun k hk => (own_lt hown k hk).1)⟩
            · have hgd : decide (nn ≤ y.n) = false := decide_eq_false hge
              rw [if_neg hge, List.append_nil] at hsa
              have Hsa := Lib.hid hsa
              clear hsa
              go_wp2_with fail
              go_roundg (m - (k + 1))
              case measure => have := Hrm2.out; omega
              case rel => exact ⟨k + 1, A', c', q, rfl, by omega, by go_num, rfl, by omega, by rw [Hsa.out]; exact hown, hb3⟩
          · obtain rfl : k = m := by omega
            rw [List.take_of_length_le (Nat.le_of_eq Hls.out)] at hown
            have hbw3 := Hbw2.out.trans (hb3.mono Hbw2.out.size)
            have hmem : ∀ y ∈ ms.take (i + 1), y ∈ ms.take i ∨ y = x := by
              intro y hy
              rw [List.take_add_one, Hx.out] at hy
              simpa using hy
            have Hmem := Lib.hid hmem
            clear hmem
            by_cases hgt : best < nn
            · have hq := quor_some (l := ms) Hc1.out (show 0 < nn by omega)
              rw [← HV.out] at hq
              have hquo := Hquo.out _ hbw3 A' q c' _ _ (Rd.of_own hown) (by omega)
              rw [hq] at hquo
              have Hqu := Lib.hid hquo
              have Hbw3 := Lib.hid hbw3
              clear hquo hq hown hb3 hbw3
              go_wp2_with fail
              refine Hqu.out.mono ?_
              rintro e w4 ⟨rfl, hb4⟩
              have hbw4 := Hbw3.out.trans (hb4.mono Hbw3.out.size)
              clear hb4
              by_cases hle : nn ≤ V
              · have hled := decide_eq_true hle
                rw [hled]
                go_wp2_with fail
                go_roundg (k - (i + 1))
                case measure => have := Hrm.out; omega
                case rel => exact ⟨i + 1, nn, rfl, by omega, by go_num, rfl, by omega, hle, fun y hy hyV => (Hmem.out y hy).elim (fun h => by have := Hall.out y h hyV; omega) (fun h => by rw [h, Hxn.out]; exact Int.le_refl _), hbw4⟩
              · have hled := decide_eq_false hle
                rw [hled]
                go_wp2_with fail
                go_roundg (k - (i + 1))
                case measure => have := Hrm.out; omega
                case rel => exact ⟨i + 1, best, rfl, by omega, by go_num, rfl, by omega, hbV, fun y hy hyV => (Hmem.out y hy).elim (fun h => Hall.out y h hyV) (fun h => by rw [h, Hxn.out] at hyV; omega), hbw4⟩
            · have hgd : decide (best < nn) = false := decide_eq_false hgt
              have Hbw3 := Lib.hid hbw3
              clear hown hb3 hbw3
              go_wp2_with fail
              go_roundg (k - (i + 1))
              case measure => have := Hrm.out; omega
              case rel => exact ⟨i + 1, best, rfl, by omega, by go_num, rfl, by omega, hbV, fun y hy hyV => (Hmem.out y hy).elim (fun h => Hall.out y h hyV) (fun h => by rw [h, Hxn.out]; omega), Hbw3.out⟩
    · obtain rfl : i = m := by omega
      have hv : V = best := by
        have h1 := Hall.out
        rw [List.take_of_length_le (Nat.le_of_eq Hls.out)] at h1
        rcases Int.lt_or_eq_of_le hV0 with h | h
        · have hpos := h
          rw [HV.out] at hpos
          obtain ⟨x, hx, hxn⟩ := agreed_mem hpos
          rw [← HV.out] at hxn
          have := h1 x hx (by omega)
          omega
        · omega
      have Hv := Lib.hid hv
      clear hv
      go_wp2_with fail
      go_ret
      exact ⟨ret_int Hv.out.symm, Hb.out⟩
end Go.Proofs.Ytedcjakgdoiomaa
