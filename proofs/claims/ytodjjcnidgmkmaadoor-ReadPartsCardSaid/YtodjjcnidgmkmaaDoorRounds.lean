/- Walk of read.Rounds. -/
import Derived.Test.YtodjjcnidgmkmaaDoorPart
import Derived.Test.YtodjjcnidgmkmaaDoorSort
namespace Go.Proofs.YtodjjcnidgmkmaaDoor
open Go.RowKit
set_option linter.unusedVariables false
set_option linter.unusedSimpArgs false
/-- Numbers handed back. -/
def NumsPost (W : World) (zs : List Int) (e : Ending) (w' : World) : Prop := ∃ A n c, e = .returned (.slice A n c) ∧ Rd w' (W.heap.size ≤ ·) 1 A n (ii zs) ∧ Below W.heap.size W w'
def ranks (term : Int) (lim : Int) (l : List It) : List Int := if quMay lim l then Lib.compact ((roundsOf term l).mergeSort fun x y => decide (x ≤ y)) else []
theorem roundsOf_len (term : Int) (l : List It) : (roundsOf term l).length ≤ l.length := by
  unfold roundsOf
  rw [List.length_map]
  exact List.length_filter_le _ _
theorem roundsOf_snoc (term : Int) (l : List It) (x : It) : roundsOf term (l ++ [x]) = roundsOf term l ++ (if x.t == term then [x.r] else []) := by
  unfold roundsOf
  rw [List.filter_append, List.map_append]
  congr 1
  by_cases h : (x.t == term) = true <;> simp [h]
set_option maxHeartbeats 1600000 in
theorem rounds_any (lim : Int) (A : Option Addr) (n c : Nat) (l : List It) (term : Int) (w : World) {ok : Nat → Prop} (hr : Rd w ok 4 A n (flat itc l)) (hn : n ≤ 1000000) :
    Calls Tryd.prog 17 #[quA lim A n c, .int .i64 term] w (NumsPost w (ranks term lim l)) := by
  have hl := hr.flen itc_len (by omega)
  have Hl := Lib.hid hl
  have r0 := hr.alloc (.cells #[.int .i64 lim, .slice A n c] 30)
  have hq := quMay_any lim A n c l _ r0 hn
  have hb0 : Bx (w.alloc (.cells #[.int .i64 lim, .slice A n c] 30)) w.heap.size #[.int .i64 lim, .slice A n c] := Bx.new w _ _ rfl
  unfold ranks
  rcases Bool.eq_false_or_eq_true (quMay lim l) with hm | hm
  · rw [hm] at hq
    rw [hm, if_pos rfl]
    have Hq := Lib.hid hq
    clear hl hq hm
    unfold quA at *
    go_enter Tryd.func17, Tryd.ntmps17
    go_wp2_with fail
    refine Hq.out.mono ?_
    rintro e w1 ⟨rfl, hb⟩
    have hb1 := hb0.below hb
    replace r0 := r0.below hb
    have hbe : Below w.heap.size w w1 := ((Below.refl _ _).alloc (Nat.le_refl _) _).trans (hb.mono (by simp))
    have k1 : w1.cell? ⟨w.heap.size, 1, none⟩ = some (.slice A n c) := hb1.c 1
    clear hb hb0 hb1
    go_wp2_with fail
    clear k1
    go_loopg [5, 7, 14] n (fun m s5 s7 s14 wr => ∃ j A2 c2, m = n - j ∧ j ≤ n ∧ s14 = .int .i64 (j : Nat) ∧ s5 = .slice A2 (roundsOf term (l.take j)).length c2 ∧ wr.ownsRow w1.heap.size 3 1 (.slice A2 (roundsOf term (l.take j)).length c2) (roundsOf term (l.take j)).length (ii (roundsOf term (l.take j))) ∧ Below w1.heap.size w1 wr)
    case atStart => exact ⟨0, none, 0, by omega, by omega, rfl, rfl, own_nil _ _ _ _ _ rfl, Below.refl _ _⟩
    case round =>
      obtain ⟨j, A2, c2, hm, hj, rfl, rfl, hown, hb⟩ := hrel
      have Hm := Lib.hid hm
      clear hm
      have hrl := roundsOf_len term (l.take j)
      have hlj : (l.take j).length = j := by rw [List.length_take, Hl.out]; omega
      rw [hlj] at hrl
      by_cases hlt : j < n
      · obtain ⟨b, o, x, rfl, _, hbl, hx, hd0, hd1, hd2, hd3⟩ := it_cells (r0.below hb) hlt
        have hs : l.take (j + 1) = l.take j ++ [x] := by rw [List.take_add_one, hx]; rfl
        have hS := roundsOf_snoc term (l.take j) x
        rw [← hs] at hS
        have hjn : (j : Int) < n := by omega
        have h0j : (0 : Int) ≤ j := by omega
        have z1 := hb.size
        generalize hzs : roundsOf term (l.take j) = zs at hown hS hrl
        rcases Bool.eq_false_or_eq_true (x.t == term) with ht | ht
        · rw [ht, if_pos rfl] at hS
          have HS := Lib.hid hS
          have hnews : Rd ((wr.alloc (.cells #[.int .i64 x.t, .int .i64 x.r, .int .i64 x.i, .int .i64 x.k] 36)).alloc (.cells #[.int .i64 x.r] 3)) T 1 (some ⟨wr.heap.size + 1, 0, none⟩) 1 (ii [x.r]) := by
            have := Rd.lit (w := wr.alloc (.cells #[.int .i64 x.t, .int .i64 x.r, .int .i64 x.i, .int .i64 x.k] 36)) (cs := #[.int .i64 x.r]) (t := 3) (fr := (0, 0)) (k := 1) rfl
            simpa [ii] using this.any
          have Hnews := Lib.hid hnews
          have H1 := Lib.hid (ii_one [x.r])
          have Hown := Lib.hid hown
          clear hS hs hx hzs hnews hown hlj
          go_wp2_with (at_builtin; go_must (refine wpList_append_any _ Tryd.underlying43 int_elem rfl (by omega) rfl rfl rfl ((Hown.out.alloc _).alloc _) rfl Hnews.out H1.out (by omega) (by simp; omega) rfl rfl ?_); intro A3 c3 w3 hown3 hg3 hat3)
          have hb3 : Below w1.heap.size w1 w3 := ((hb.alloc z1 _).alloc (by simp; omega) _).grown hg3 (by simp; omega) (fun g hg => (own_lt Hown.out g hg).1)
          have e1 : ii zs ++ ii [x.r] = ii (zs ++ [x.r]) := by simp [ii]
          rw [e1] at hown3
          go_roundg (n - (j + 1))
          case measure => have := Hm.out; omega
          case rel =>
            refine ⟨j + 1, A3, c3, rfl, by omega, by go_num, ?_, ?_, hb3⟩
            · rw [HS.out]; simp
            · rw [HS.out]; simpa using hown3
        · rw [ht] at hS
          have hS' : roundsOf term (l.take (j + 1)) = zs := by simpa using hS
          have HS := Lib.hid hS'
          clear hS hs hx hzs hS' hlj
          go_wp2_with fail
          go_roundg (n - (j + 1))
          case measure => have := Hm.out; omega
          case rel => exact ⟨j + 1, A2, c2, rfl, by omega, by go_num, by rw [HS.out], by rw [HS.out]; exact hown.alloc _, hb.alloc z1 _⟩
      · obtain rfl : j = n := by omega
        rw [List.take_of_length_le (Nat.le_of_eq Hl.out)] at *
        generalize hzs : roundsOf term l = zs at *
        have Hzs := Lib.hid hzs
        clear hzs
        have hnl : zs.length ≤ 1000000 := by omega
        have hsort := sort_any w1.heap.size A2 zs.length c2 zs wr hown hnl
        have Hsort := Lib.hid hsort
        clear hsort
        have hrow : ∀ g, A2.map (·.block) = some g → w1.heap.size ≤ g := fun g hg => (own_lt hown g hg).1
        have Hrow := Lib.hid hrow
        clear hrow hown
        go_wp2_with fail
        refine Hsort.out.mono ?_
        rintro e w3 ⟨rfl, hown3, hg3⟩
        replace hb := hb.grown hg3 hb.size Hrow.out
        have hcmp := compact_any w1.heap.size A2 zs.length c2 _ w3 hown3 hnl
        have Hcmp := Lib.hid hcmp
        clear hcmp hown3 hg3
        go_wp2_with fail
        refine Hcmp.out.mono ?_
        rintro e w4 ⟨k, rfl, r4, hg4⟩
        go_wp2_with fail
        go_ret
        have hb4 := hb.grown hg4 hb.size Hrow.out
        exact ⟨A2, k, c2, rfl, by rw [Hzs.out]; exact r4.mono (fun b hb => Nat.le_trans hbe.size hb), hbe.trans (hb4.mono hbe.size)⟩
  · rw [hm] at hq
    rw [hm]
    have Hq := Lib.hid hq
    clear hl hq hm
    unfold quA at *
    go_enter Tryd.func17, Tryd.ntmps17
    go_wp2_with fail
    refine Hq.out.mono ?_
    rintro e w1 ⟨rfl, hb⟩
    have hbe : Below w.heap.size w w1 := ((Below.refl _ _).alloc (Nat.le_refl _) _).trans (hb.mono (by simp))
    clear hb hb0
    go_wp2_with fail
    go_ret
    exact ⟨none, 0, 0, rfl, Rd.none_, hbe⟩
end Go.Proofs.YtodjjcnidgmkmaaDoor
