/- Walk: what is agreed. -/
import Derived.Test.YtedcjakgdoiomaaDoorConf2
import Derived.Test.YtedcjakgdoiomaaDoorSort
namespace Go.Proofs.YtedcjakgdoiomaaDoor
open Go.RowKit
set_option maxRecDepth 100000
set_option linter.unusedVariables false
set_option linter.unusedSimpArgs false
def mkc (x : Mk) : List Value := [.int .i64 x.m, .int .i64 x.n]
theorem mkc_len (x : Mk) : (mkc x).length = 2 := rfl
theorem mk_cells {w : World} {ok : Nat → Prop} {n : Nat} {A : Option Addr} {l : List Mk} (h : Rd w ok 2 A n (flat mkc l)) {j : Nat} (hj : j < n) : ∃ b o x, A = some ⟨b, o, none⟩ ∧ ok b ∧ b < w.heap.size ∧ l[j]? = some x ∧
    w.cell? ⟨b, o + j * 2, none⟩ = some (.int .i64 x.m) ∧ w.cell? ⟨b, o + j * 2 + 1, none⟩ = some (.int .i64 x.n) := by
  obtain ⟨b, o, x, hA, hb, hlt, hx, hc⟩ := h.fat mkc_len (by omega) hj
  exact ⟨b, o, x, hA, hb, hlt, hx, hc 0 _ rfl, hc 1 _ rfl⟩
theorem mark_elem : Elem Tryd.prog 41 (.agg #[.int .i64 0, .int .i64 0]) 2 16 := by unfold Elem; kernel_rfl
theorem Rd.blit {w : World} {cs : Array Value} {t : TypeId} {fr : Nat × Nat} {k : Nat} (hk : cs.size = k) : Rd (w.alloc (.cells cs t fr)) (w.heap.size ≤ ·) k (some ⟨w.heap.size, 0, none⟩) 1 cs.toList := by
  refine ⟨by simpa using hk, fun _ => ⟨_, rfl, Nat.le_refl _, fun j u hu => ?_⟩⟩
  exact World.news_of_block (heap_alloc_new w _) j u hu
theorem flat_take1 (l : List Mk) {j : Nat} {x : Mk} (h : l[j]? = some x) : flat mkc (l.take (j + 1)) = flat mkc (l.take j) ++ [.int .i64 x.m, .int .i64 x.n] := by
  rw [List.take_add_one, h, flat_append]
  rfl
theorem reach_at {l : List Mk} {i : Nat} {x : Mk} (h : l[i]? = some x) (who : Int) : reach (l.take (i + 1)) who = if x.m = who then max (reach (l.take i) who) x.n else reach (l.take i) who := by
  unfold reach
  rw [List.take_add_one, h]
  simp only [Option.toList_some, List.foldl_append, List.foldl_cons, List.foldl_nil]
theorem reaches_at {l : List Mk} {c : List Int} {j : Nat} {who : Int} (h : c[j]? = some who) : ii (reaches l (c.take (j + 1))) = ii (reaches l (c.take j)) ++ [.int .i64 (reach l who)] := by
  unfold reaches ii
  rw [List.take_add_one, h]
  simp
theorem some_at {l : List Mk} {i : Nat} {x : Mk} (h : l[i]? = some x) (n : Int) : someOf n (l.take (i + 1)) = someOf n (l.take i) ++ if n ≤ x.n then [x.m] else [] := by
  unfold someOf
  rw [List.take_add_one, h]
  simp only [Option.toList_some, List.filter_append, List.map_append, List.filter_cons, decide_eq_true_eq]
  split <;> simp
theorem ii_append (a b : List Int) : ii (a ++ b) = ii a ++ ii b := by simp [ii]
set_option maxHeartbeats 3200000 in
theorem agreed_any (A : Option Addr) (n c : Nat) (l : List Int) (B : Option Addr) (m d : Nat) (ms : List Mk) (w : World) {ok ok' : Nat → Prop} (hr : Rd w ok 1 A n (ii l)) (hn : n ≤ 1000000) (hs : Rd w ok' 2 B m (flat mkc ms)) (hm : m ≤ 1000000) :
    Calls Tryd.prog 17 #[.slice A n c, .slice B m d] w (IntPost w (agreed l ms)) := by
  have Hl := Lib.hid (ii_len hr)
  have Hls := Lib.hid (hs.flen mkc_len (by omega))
  have hmay := may_any A n c l w hr hn
  have Hmay := Lib.hid hmay
  have Hr := Lib.hid hr
  have Hs := Lib.hid hs
  clear hmay hr hs
  obtain ⟨V, hV⟩ : ∃ V, V = agreed l ms := ⟨_, rfl⟩
  rw [← hV]
  have HV := Lib.hid hV
  clear hV
  go_enter Tryd.func17, Tryd.ntmps17
  go_wp2_with fail
  refine Hmay.out.mono ?_
  rintro e w' ⟨rfl, rfl⟩
  rcases hc1 : cmay l with _ | _
  · have hv : V = 0 := by rw [HV.out]; unfold agreed; rw [hc1]; rfl
    have Hv := Lib.hid hv
    clear hv hc1
    go_wp2_with fail
    go_ret
    exact ⟨ret_int Hv.out.symm, Below.refl _ _⟩
  · have hcm := cmay_iff.1 hc1
    have hn7 : n ≤ 7 := by have := Hl.out; omega
    have hn1 : 1 ≤ n := by have := Hl.out; omega
    have hv : V = (srt (reaches ms l)).getD ((n - 1) / 2) 0 := by rw [HV.out]; unfold agreed; rw [hc1, if_pos rfl, Hl.out]
    have Hv := Lib.hid hv
    clear hv hc1 hcm
    go_wp2_with fail
    go_loopg [5, 7, 8, 10, 16] n (fun r s5 s7 s8 s10 s16 wr => ∃ (j : Nat) (A' : Option Addr) (c' : Nat), r = n - j ∧ j ≤ n ∧ s16 = .int .i64 j ∧ s5 = .slice A' j c' ∧ wr.ownsRow w.heap.size 3 1 (.slice A' j c') j (ii (reaches ms (l.take j))) ∧ Below w.heap.size w wr)
    case atStart => exact ⟨0, none, 0, by omega, by omega, rfl, rfl, World.ownsRow_nil _ _ _ _, Below.refl _ _⟩
    case round =>
      obtain ⟨j, A', c', hrm, hj, rfl, rfl, hown, hb⟩ := hrel
      have Hrm := Lib.hid hrm
      clear hrm
      by_cases hlt : j < n
      · obtain ⟨b, o, x, rfl, _, _, hx, hc⟩ := ii_cell (Hr.out.below hb) hlt
        have hft := reaches_at (l := ms) hx
        have Hft := Lib.hid hft
        have hltI : (j : Int) < n := by omega
        have Hown := Lib.hid hown
        have Hb := Lib.hid hb
        clear hx hft hown hb
        go_wp2_with fail
        go_loopg [8, 10, 22] m (fun r s8 s10 s22 wr2 => ∃ i : Nat, r = m - i ∧ i ≤ m ∧ s22 = .int .i64 i ∧ s8 = .int .i64 (reach (ms.take i) x) ∧ Below wr.heap.size wr wr2)
        case atStart => exact ⟨0, by omega, by omega, rfl, rfl, Below.refl _ _⟩
        case round =>
          obtain ⟨i, hrm, hi, rfl, rfl, hb2⟩ := hrel
          have Hrm2 := Lib.hid hrm
          clear hrm
          by_cases hlt2 : i < m
          · obtain ⟨b2, o2, y, rfl, _, _, hy, hc0, hc2⟩ := mk_cells ((Hs.out.below Hb.out).below hb2) hlt2
            have hra := reach_at hy x
            have hlt2I : (i : Int) < m := by omega
            clear hy
            generalize reach (ms.take i) x = ra at hra
            by_cases hyx : y.m = x
            · have e1 : (y.m == x) = true := by simpa using hyx
              rw [if_pos hyx] at hra
              have Hra := Lib.hid hra
              clear hra
              by_cases hle : ra ≤ y.n
              · have hmx : max ra y.n = y.n := by omega
                go_wp2_with fail
                all_goals
                  go_roundg (m - (i + 1))
                  case measure => have := Hrm2.out; omega
                  case rel => exact ⟨i + 1, rfl, by omega, by go_num, by rw [Hra.out]; first | rfl | (congr 1; omega), hb2.alloc hb2.size _⟩
              · have hmx : max ra y.n = ra := by omega
                go_wp2_with fail
                all_goals
                  go_roundg (m - (i + 1))
                  case measure => have := Hrm2.out; omega
                  case rel => exact ⟨i + 1, rfl, by omega, by go_num, by rw [Hra.out]; first | rfl | (congr 1; omega), hb2.alloc hb2.size _⟩
            · have e1 : (y.m == x) = false := by simpa using hyx
              rw [if_neg hyx] at hra
              have Hra := Lib.hid hra
              clear hra
              go_wp2_with fail
              go_roundg (m - (i + 1))
              case measure => have := Hrm2.out; omega
              case rel => exact ⟨i + 1, rfl, by omega, by go_num, by rw [Hra.out], hb2.alloc hb2.size _⟩
          · obtain rfl : i = m := by omega
            rw [List.take_of_length_le (Nat.le_of_eq Hls.out)]
            have hz1 := Hb.out.size
            have hz2 := hb2.size
            have hown2 := own_below Hown.out hb2
            generalize reach ms x = rx at Hft
            go_wp2_with (at_builtin; refine wpList_append_any (news := [.int .i64 rx]) _ Tryd.underlying22 int_elem rfl (by omega) rfl rfl rfl (hown2.alloc _) rfl (Rd.blit rfl).any (by intro u hu; simp only [List.mem_cons, List.not_mem_nil, or_false] at hu; rcases hu with rfl; rfl) (by omega) (by simp; omega) rfl rfl ?_; intro A1 c1 w1 hown1 hg1 hat1)
            go_roundg (n - (j + 1))
            case measure => have := Hrm.out; omega
            case rel => exact ⟨j + 1, A1, c1, rfl, by omega, by go_num, rfl, by rw [Hft.out]; exact hown1, ((Hb.out.trans (hb2.mono hz1)).alloc (by omega) _).grown hg1 (by simp; omega) (fun k hk => (own_lt Hown.out k hk).1)⟩
      · obtain rfl : j = n := by omega
        rw [List.take_of_length_le (Nat.le_of_eq Hl.out)] at hown
        have hsrt := sort_any w.heap.size A' j c' (reaches ms l) wr hown (by omega)
        have Hsrt := Lib.hid hsrt
        have Hown := Lib.hid hown
        clear hsrt hown
        go_wp2_with fail
        refine Hsrt.out.mono ?_
        rintro e w5 ⟨rfl, hown5, hg5⟩
        have hb5 := hb.grown hg5 hb.size (fun k hk => (own_lt Hown.out k hk).1)
        obtain ⟨b, o, z, rfl, _, _, hz, hcz⟩ := ii_cell (Rd.of_own hown5) (show (j - 1) / 2 < j by omega)
        have hvz : V = z := by
          rw [Hv.out, List.getD_eq_getElem?_getD]
          change (srt (reaches ms l))[(j - 1) / 2]? = some z at hz
          rw [hz]
          rfl
        have Hvz := Lib.hid hvz
        have Hb5 := Lib.hid hb5
        clear hz hvz hb5 hown5
        have h7 : j = 1 ∨ j = 2 ∨ j = 3 ∨ j = 4 ∨ j = 5 ∨ j = 6 ∨ j = 7 := by omega
        rcases h7 with rfl | rfl | rfl | rfl | rfl | rfl | rfl
        all_goals
          simp only [Nat.reduceSub, Nat.reduceDiv, Nat.add_zero] at hcz
          go_wp2_with fail
          go_ret
          exact ⟨ret_int Hvz.out.symm, Hb5.out⟩
end Go.Proofs.YtedcjakgdoiomaaDoor
