/- Walk of the reference's Rounds. -/
import Derived.Test.YtodjjcnidgmkmaaDoorRounds
import Derived.Test.YtodjjcnidgmkmaaDoorMayR
namespace Go.Proofs.YtodjjcnidgmkmaaDoor
open Go.RowKit
set_option linter.unusedVariables false
set_option linter.unusedSimpArgs false
theorem ranked_ranks (term : Int) (l : List It) : Ranked (Lib.compact ((roundsOf term l).mergeSort fun x y => decide (x ≤ y))) (roundsOf term l) := compact_sorted _
theorem rounds_pos (term : Int) (lim : Int) (l : List It) (hm : quMay lim l = true) : ∀ z ∈ roundsOf term l, 0 ≤ z ∧ z ≤ 1099511627776 := by
  intro z hz
  unfold roundsOf at hz
  obtain ⟨x, hx, rfl⟩ := List.mem_map.1 hz
  have hx' := (List.mem_filter.1 hx).1
  unfold quMay at hm
  simp only [Bool.and_eq_true, List.all_eq_true] at hm
  have := hm.2 x hx'
  simp only [itMay, okN, Bool.and_eq_true, Bool.not_eq_true', Bool.or_eq_false_iff, decide_eq_false_iff_not] at this
  omega
theorem take_getD_snoc (S : List Int) (k : Nat) (h : k < S.length) : S.take (k + 1) = S.take k ++ [S.getD k 0] := by
  rw [List.take_succ_eq_append_getElem h, List.getD_eq_getElem?_getD, List.getElem?_eq_getElem h]
  rfl
theorem Least.ge {zs : List Int} {last next : Int} (h : Least zs last next) (h0 : ∀ z ∈ zs, 0 ≤ z ∧ z ≤ 1099511627776) : next = -1 ∨ 0 ≤ next ∧ next ≤ 1099511627776 := by
  rcases h with ⟨h1, _⟩ | ⟨h1, _, _⟩
  · exact .inl h1
  · exact .inr (h0 _ h1)
set_option maxRecDepth 100000 in
set_option maxHeartbeats 3200000 in
theorem roundsR_any (lim : Int) (A : Option Addr) (n c : Nat) (l : List It) (term : Int) (w : World) {ok : Nat → Prop} (hr : Rd w ok 4 A n (flat itc l)) (hn : n ≤ 1000000) :
    Calls Tryd.prog 18 #[quA lim A n c, .int .i64 term] w (NumsPost w (ranks term lim l)) := by
  have hl := hr.flen itc_len (by omega)
  have Hl := Lib.hid hl
  have r0 := hr.alloc (.cells #[.int .i64 lim, .slice A n c] 24)
  have hq := fun W hb => mayR_any lim A n c l W (r0.below hb) hn
  have hb0 : Bx (w.alloc (.cells #[.int .i64 lim, .slice A n c] 24)) w.heap.size #[.int .i64 lim, .slice A n c] := Bx.new w _ _ rfl
  have hbw : Below w.heap.size w (w.alloc (.cells #[.int .i64 lim, .slice A n c] 24)) := (Below.refl _ _).alloc (Nat.le_refl _) _
  obtain ⟨W0, hW0⟩ : ∃ W0, W0 = w.alloc (.cells #[.int .i64 lim, .slice A n c] 24) := ⟨_, rfl⟩
  rw [← hW0] at hq r0 hb0 hbw
  have hz0 : W0.heap.size = w.heap.size + 1 := by subst hW0; simp
  have HW := Lib.hid hW0
  unfold ranks
  rcases Bool.eq_false_or_eq_true (quMay lim l) with hm | hm
  · rw [hm] at hq
    rw [hm, if_pos rfl]
    have hR := ranked_ranks term l
    have hpos := rounds_pos term lim l hm
    obtain ⟨S, hS⟩ : ∃ S, S = Lib.compact ((roundsOf term l).mergeSort fun x y => decide (x ≤ y)) := ⟨_, rfl⟩
    rw [← hS] at hR ⊢
    have hSl : S.length ≤ 1000000 := by
      have h1 := roundsOf_len term l
      have h2 : S.length ≤ (roundsOf term l).length := by
        rw [hS]
        have e : ((roundsOf term l).mergeSort fun x y => decide (x ≤ y)).length = (roundsOf term l).length := by simp
        rw [← e]
        unfold Lib.compact Lib.compactUpTo
        rw [List.length_map]
        have := List.length_filter_le (Lib.keeps ((roundsOf term l).mergeSort fun x y => decide (x ≤ y)).toArray) (List.range ((roundsOf term l).mergeSort fun x y => decide (x ≤ y)).length)
        simpa using this
      omega
    have HR := Lib.hid hR
    have Hpos := Lib.hid hpos
    have Hq := Lib.hid hq
    have HS := Lib.hid hS
    clear hl hq hm hR hpos hS hW0
    unfold quA at *
    go_enter Tryd.func18, Tryd.ntmps18
    go_wp2_with fail
    rw [← HW.out]
    go_loopg [5, 6, 7, 8, 9] (S.length + 1) (fun m s5 s6 s7 s8 s9 wr => ∃ k A2 c2, m = S.length + 1 - k ∧ k ≤ S.length ∧ s6 = .int .i64 (if k = 0 then -1 else S.getD (k - 1) 0) ∧ s5 = .slice A2 k c2 ∧ wr.ownsRow W0.heap.size 3 1 (.slice A2 k c2) k (ii (S.take k)) ∧ Below W0.heap.size W0 wr)
    case atStart => exact ⟨0, none, 0, by omega, by omega, rfl, rfl, own_nil _ _ _ _ _ rfl, Below.refl _ _⟩
    case round =>
      obtain ⟨k, A2, c2, hm, hk, rfl, rfl, hown, hb⟩ := hrel
      have Hm := Lib.hid hm
      clear hm
      obtain ⟨last, hlast⟩ : ∃ last : Int, last = if k = 0 then -1 else S.getD (k - 1) 0 := ⟨_, rfl⟩
      rw [← hlast]
      have hlast1 : -1 ≤ last := by
        by_cases h0 : k = 0
        · rw [hlast, if_pos h0]; omega
        · rw [hlast, if_neg h0]
          have hin : S.getD (k - 1) 0 ∈ S := by
            rw [List.getD_eq_getElem?_getD, List.getElem?_eq_getElem (by omega)]
            exact List.getElem_mem _
          have := (Hpos.out _ ((HR.out.2 _).1 hin)).1
          omega
      have Hlast := Lib.hid hlast
      clear hlast
      have q1 : wr.cell? ⟨w.heap.size, 0, none⟩ = some (.int .i64 lim) := (hb0.below hb).c 0
      have q2 : wr.cell? ⟨w.heap.size, 1, none⟩ = some (.slice A n c) := (hb0.below hb).c 1
      go_wp2_with fail
      refine (Hq.out wr hb).mono ?_
      rintro e w2 ⟨rfl, hb2⟩
      replace hown := own_below hown hb2
      replace hb := hb.trans (hb2.mono hb.size)
      clear hb2 q1 q2
      go_wp2_with fail
      go_loopg [7, 8, 9] n (fun m s7 s8 s9 wr => ∃ j nx, m = n - j ∧ j ≤ n ∧ s8 = .int .i64 (j : Nat) ∧ s7 = .int .i64 nx ∧ Least (roundsOf term (l.take j)) last nx ∧ Below w2.heap.size w2 wr)
      case atStart => exact ⟨0, -1, by omega, by omega, rfl, rfl, by simpa [roundsOf] using Least.nil last, Below.refl _ _⟩
      case round =>
        obtain ⟨j, nx, hm, hj, rfl, rfl, hle, hb3⟩ := hrel
        have Hm2 := Lib.hid hm
        clear hm
        have hbj := hb.trans (hb3.mono hb.size)
        have q2 : wr.cell? ⟨w.heap.size, 1, none⟩ = some (.slice A n c) := (hb0.below hbj).c 1
        by_cases hlt : j < n
        · obtain ⟨b, o, x, rfl, _, hbl, hx, hd0, hd1, hd2, hd3⟩ := it_cells (r0.below hbj) hlt
          have hs : l.take (j + 1) = l.take j ++ [x] := by rw [List.take_add_one, hx]; rfl
          have hSn := roundsOf_snoc term (l.take j) x
          rw [← hs] at hSn
          have hjn : (j : Int) < n := by omega
          have h0j : (0 : Int) ≤ j := by omega
          have z1 := hb3.size
          have hnx : nx = -1 ∨ 0 ≤ nx ∧ nx ≤ 1099511627776 := hle.ge (fun z hz => Hpos.out z (by
            have : (l.take j).Sublist l := List.take_sublist _ _
            unfold roundsOf at hz ⊢
            exact ((this.filter _).map _).subset hz))
          rcases Bool.eq_false_or_eq_true (x.t == term) with ht | ht
          · rw [ht, if_pos rfl] at hSn
            by_cases hgt : last < x.r
            · rcases Bool.eq_false_or_eq_true (decide (nx < 0)) with hneg | hneg
              · have hneg' : nx < 0 := of_decide_eq_true hneg
                have hnext := hle.hit hgt (.inl hneg') hlast1
                rw [← hSn] at hnext
                have Hn := Lib.hid hnext
                clear hSn hs hx hle hnx hneg' hnext
                go_wp2_with fail
                go_roundg (n - (j + 1))
                case measure => have := Hm2.out; omega
                case rel => exact ⟨j + 1, x.r, rfl, by omega, by go_num, rfl, Hn.out, hb3.alloc z1 _⟩
              · have hneg' : ¬ nx < 0 := of_decide_eq_false hneg
                by_cases hlt2 : x.r < nx
                · have hnext := hle.hit hgt (.inr hlt2) hlast1
                  rw [← hSn] at hnext
                  have Hn := Lib.hid hnext
                  clear hSn hs hx hle hnx hneg' hnext
                  go_wp2_with fail
                  go_roundg (n - (j + 1))
                  case measure => have := Hm2.out; omega
                  case rel => exact ⟨j + 1, x.r, rfl, by omega, by go_num, rfl, Hn.out, hb3.alloc z1 _⟩
                · have hnext := hle.skip (z := x.r) (.inr ⟨by omega, by omega⟩) hlast1
                  rw [← hSn] at hnext
                  have Hn := Lib.hid hnext
                  clear hSn hs hx hle hnx hneg' hnext
                  go_wp2_with fail
                  go_roundg (n - (j + 1))
                  case measure => have := Hm2.out; omega
                  case rel => exact ⟨j + 1, nx, rfl, by omega, by go_num, rfl, Hn.out, hb3.alloc z1 _⟩
            · have hnext := hle.skip (z := x.r) (.inl (by omega)) hlast1
              rw [← hSn] at hnext
              have Hn := Lib.hid hnext
              clear hSn hs hx hle hnx hnext
              go_wp2_with fail
              go_roundg (n - (j + 1))
              case measure => have := Hm2.out; omega
              case rel => exact ⟨j + 1, nx, rfl, by omega, by go_num, rfl, Hn.out, hb3.alloc z1 _⟩
          · rw [ht] at hSn
            have hS' : roundsOf term (l.take (j + 1)) = roundsOf term (l.take j) := by simpa using hSn
            rw [← hS'] at hle
            have Hn := Lib.hid hle
            clear hSn hs hx hle hnx hS'
            go_wp2_with fail
            go_roundg (n - (j + 1))
            case measure => have := Hm2.out; omega
            case rel => exact ⟨j + 1, nx, rfl, by omega, by go_num, rfl, Hn.out, hb3.alloc z1 _⟩
        · obtain rfl : j = n := by omega
          rw [List.take_of_length_le (Nat.le_of_eq Hl.out)] at hle
          have hcase := Least.next HR.out (fun z hz => (Hpos.out z hz).1) hk Hlast.out hle
          replace hown := own_below hown hb3
          clear hle
          rcases hcase with ⟨hn1, hks⟩ | ⟨hn1, hks, hn2⟩
          · have hneg : nx < 0 := by omega
            have Hks := Lib.hid hks
            clear hks hn1
            go_wp2_with fail
            go_ret
            refine ⟨A2, k, c2, rfl, ?_, hbw.trans (hbj.mono hbw.size)⟩
            have r5 := Rd.of_own hown
            rw [List.take_of_length_le (Nat.le_of_eq Hks.out.symm)] at r5
            exact r5.mono (fun b hb => by omega)
          · have hneg : ¬ nx < 0 := by omega
            have Hn2 := Lib.hid hn2
            clear hn2
            have hnews : Rd (wr.alloc (.cells #[.int .i64 nx] 3)) T 1 (some ⟨wr.heap.size, 0, none⟩) 1 (ii [nx]) := (Rd.lit rfl).any
            have Hnews := Lib.hid hnews
            have H1 := Lib.hid (ii_one [nx])
            have Hown := Lib.hid hown
            have zz := hbj.size
            clear hnews hown
            go_wp2_with (at_builtin; go_must (refine wpList_append_any _ Tryd.underlying43 int_elem rfl (by omega) rfl rfl rfl (Hown.out.alloc _) rfl Hnews.out H1.out (by omega) (by simp; omega) rfl rfl ?_); intro A3 c3 w3 hown3 hg3 hat3)
            have hb4 := (hbj.alloc zz _).grown hg3 (by simp; omega) (fun g hg => (own_lt Hown.out g hg).1)
            have e1 : ii (S.take k) ++ ii [nx] = ii (S.take (k + 1)) := by
              rw [take_getD_snoc S k hks, ← Hn2.out]
              simp [ii]
            rw [e1] at hown3
            go_roundg (S.length + 1 - (k + 1))
            case measure => have := Hm.out; omega
            case rel =>
              refine ⟨k + 1, A3, c3, rfl, by omega, ?_, rfl, hown3, hb4⟩
              rw [if_neg (by omega), Nat.add_sub_cancel, ← Hn2.out]
  · rw [hm] at hq
    rw [hm]
    have Hq := Lib.hid hq
    clear hl hq hm hW0
    unfold quA at *
    go_enter Tryd.func18, Tryd.ntmps18
    go_wp2_with fail
    rw [← HW.out]
    go_loopg [5, 6, 7, 8, 9] 1 (fun m s5 s6 s7 s8 s9 wr => s5 = .slice none 0 0 ∧ wr = W0)
    case atStart => exact ⟨rfl, rfl⟩
    case round =>
      obtain ⟨rfl, rfl⟩ := hrel
      have q1 : wr.cell? ⟨w.heap.size, 0, none⟩ = some (.int .i64 lim) := hb0.c 0
      have q2 : wr.cell? ⟨w.heap.size, 1, none⟩ = some (.slice A n c) := hb0.c 1
      go_wp2_with fail
      refine (Hq.out wr (Below.refl _ _)).mono ?_
      rintro e w2 ⟨rfl, hb2⟩
      go_wp2_with fail
      go_ret
      exact ⟨none, 0, 0, rfl, Rd.none_, hbw.trans (hb2.mono hbw.size)⟩
end Go.Proofs.YtodjjcnidgmkmaaDoor
