/- Walks: whether an item, a queue may be (the reference's texts). -/
import Derived.Test.YtodjjcnidgmkmaaDoorMay
namespace Go.Proofs.YtodjjcnidgmkmaaDoor
open Go.RowKit
set_option linter.unusedVariables false
set_option linter.unusedSimpArgs false
theorem in_any (z : Int) (w : World) : Calls Tryd.prog 33 #[.int .i64 z] w fun e w' => e = .returned (.bool (okN z)) ∧ w = w' := by
  by_cases h : z < 0
  · have e1 : okN z = false := by simp [okN, h]
    rw [e1]
    go_enter Tryd.func33, Tryd.ntmps33
    go_wp2_with fail
    go_ret
    exact ⟨rfl, rfl⟩
  · by_cases h2 : z ≤ 1099511627776
    · have e1 : okN z = true := by simp [okN]; omega
      rw [e1]
      go_enter Tryd.func33, Tryd.ntmps33
      go_wp2_with fail
      go_ret
      exact ⟨rfl, rfl⟩
    · have e1 : okN z = false := by simp [okN]; omega
      rw [e1]
      go_enter Tryd.func33, Tryd.ntmps33
      go_wp2_with fail
      go_ret
      exact ⟨rfl, rfl⟩
set_option maxHeartbeats 800000 in
theorem itemMay_any (x : It) (w : World) : Calls Tryd.prog 22 #[itA x] w (BoolPost w (itMay x)) := by
  obtain ⟨t, r, i, k⟩ := x
  unfold itA itMay
  dsimp only
  have h1 := in_any t (w.alloc (.cells #[.int .i64 t, .int .i64 r, .int .i64 i, .int .i64 k] 26))
  have h2 := in_any r (w.alloc (.cells #[.int .i64 t, .int .i64 r, .int .i64 i, .int .i64 k] 26))
  have h3 := in_any i (w.alloc (.cells #[.int .i64 t, .int .i64 r, .int .i64 i, .int .i64 k] 26))
  have h4 := in_any k (w.alloc (.cells #[.int .i64 t, .int .i64 r, .int .i64 i, .int .i64 k] 26))
  generalize okN t = a1 at h1
  generalize okN r = a2 at h2
  generalize okN i = a3 at h3
  generalize okN k = a4 at h4
  have H1 := Lib.hid h1
  have H2 := Lib.hid h2
  have H3 := Lib.hid h3
  have H4 := Lib.hid h4
  clear h1 h2 h3 h4
  cases a1
  · go_enter Tryd.func22, Tryd.ntmps22
    go_wp2_with fail
    refine H1.out.mono ?_
    rintro e w' ⟨rfl, rfl⟩
    go_wp2_with fail
    go_ret
    exact ⟨rfl, (Below.refl _ _).alloc (Nat.le_refl _) _⟩
  · cases a2
    · go_enter Tryd.func22, Tryd.ntmps22
      go_wp2_with fail
      refine H1.out.mono ?_
      rintro e w' ⟨rfl, rfl⟩
      go_wp2_with fail
      refine H2.out.mono ?_
      rintro e w' ⟨rfl, rfl⟩
      go_wp2_with fail
      go_ret
      exact ⟨rfl, (Below.refl _ _).alloc (Nat.le_refl _) _⟩
    · cases a3
      · go_enter Tryd.func22, Tryd.ntmps22
        go_wp2_with fail
        refine H1.out.mono ?_
        rintro e w' ⟨rfl, rfl⟩
        go_wp2_with fail
        refine H2.out.mono ?_
        rintro e w' ⟨rfl, rfl⟩
        go_wp2_with fail
        refine H3.out.mono ?_
        rintro e w' ⟨rfl, rfl⟩
        go_wp2_with fail
        go_ret
        exact ⟨rfl, (Below.refl _ _).alloc (Nat.le_refl _) _⟩
      · go_enter Tryd.func22, Tryd.ntmps22
        go_wp2_with fail
        refine H1.out.mono ?_
        rintro e w' ⟨rfl, rfl⟩
        go_wp2_with fail
        refine H2.out.mono ?_
        rintro e w' ⟨rfl, rfl⟩
        go_wp2_with fail
        refine H3.out.mono ?_
        rintro e w' ⟨rfl, rfl⟩
        go_wp2_with fail
        refine H4.out.mono ?_
        rintro e w' ⟨rfl, rfl⟩
        go_wp2_with fail
        go_ret
        exact ⟨rfl, (Below.refl _ _).alloc (Nat.le_refl _) _⟩
set_option maxHeartbeats 1600000 in
theorem mayR_any (lim : Int) (A : Option Addr) (n c : Nat) (l : List It) (w : World) {ok : Nat → Prop} (hr : Rd w ok 4 A n (flat itc l)) (hn : n ≤ 1000000) :
    Calls Tryd.prog 15 #[quA lim A n c] w (BoolPost w (quMay lim l)) := by
  have hl := hr.flen itc_len (by omega)
  have hq : quMay lim l = (decide (1 ≤ lim) && decide (lim ≤ 4096) && decide ((n : Int) ≤ lim) && l.all itMay) := by rw [quMay, hl]
  have Hq := Lib.hid hq
  have Hl := Lib.hid hl
  clear hl hq
  unfold quA
  by_cases h1 : 1 ≤ lim
  · by_cases h2 : lim ≤ 4096
    · by_cases h3 : (n : Int) ≤ lim
      · have hq2 : quMay lim l = l.all itMay := by rw [Hq.out, decide_eq_true h1, decide_eq_true h2, decide_eq_true h3]; rfl
        have Hq2 := Lib.hid hq2
        have hbx := Bx.new w #[.int .i64 lim, .slice A n c] 24 rfl
        have hb0 : Below w.heap.size w (w.alloc (.cells #[.int .i64 lim, .slice A n c] 24)) := (Below.refl _ _).alloc (Nat.le_refl _) _
        clear hq2
        go_enter Tryd.func15, Tryd.ntmps15
        go_wp2_with fail
        go_loopg [3] n (fun m s3 wr => ∃ j : Nat, m = n - j ∧ j ≤ n ∧ s3 = .int .i64 j ∧ (l.take j).all itMay = true ∧ Bx wr w.heap.size #[.int .i64 lim, .slice A n c] ∧ Below w.heap.size w wr)
        case atStart => exact ⟨0, by omega, by omega, rfl, by simp, hbx, hb0⟩
        case round =>
          obtain ⟨j, hm, hj, rfl, hno, hbx', hb⟩ := hrel
          clear hbx hb0
          have Hm := Lib.hid hm
          have Hno := Lib.hid hno
          have hc1 : wr.cell? ⟨w.heap.size, 1, none⟩ = some (.slice A n c) := hbx'.c 1
          have Hbx := Lib.hid hbx'
          clear hm hno hbx'
          by_cases hlt : j < n
          · obtain ⟨b, o, x, rfl, _, hbl, hx, hd0, hd1, hd2, hd3⟩ := it_cells (hr.below hb) hlt
            have hs : l.take (j + 1) = l.take j ++ [x] := by rw [List.take_add_one, hx]; rfl
            have hmem : x ∈ l := List.mem_of_getElem? hx
            have Hs := Lib.hid hs
            have Hmem := Lib.hid hmem
            have hodd := itemMay_any x wr
            obtain ⟨m, hm⟩ : ∃ m, m = itMay x := ⟨_, rfl⟩
            rw [← hm] at hodd
            have Hmm := Lib.hid hm
            unfold itA at hodd
            have Hodd := Lib.hid hodd
            clear hs hmem hx hm hodd
            have hjn : (j : Int) < n := by omega
            rcases Bool.eq_false_or_eq_true m with hz | hz
            · subst hz
              go_wp2_with fail
              refine Hodd.out.mono ?_
              rintro e w' ⟨rfl, hb2⟩
              go_wp2_with fail
              go_roundg (n - (j + 1))
              case measure => have := Hm.out; omega
              case rel => exact ⟨j + 1, rfl, by omega, by go_num, by rw [Hs.out, List.all_append, Hno.out]; simp [← Hmm.out], Hbx.out.below hb2, hb.trans (hb2.mono hb.size)⟩
            · subst hz
              go_wp2_with fail
              refine Hodd.out.mono ?_
              rintro e w' ⟨rfl, hb2⟩
              go_wp2_with fail
              go_ret
              refine ⟨ret_bool ?_, hb.trans (hb2.mono hb.size)⟩
              rw [Hq2.out]
              symm
              rw [← Bool.not_eq_true, List.all_eq_true]
              intro h
              have := h x Hmem.out
              rw [← Hmm.out] at this
              cases this
          · obtain rfl : j = n := by omega
            go_wp2_with fail
            go_ret
            refine ⟨ret_bool ?_, hb⟩
            have := Hno.out
            rw [List.take_of_length_le (Nat.le_of_eq Hl.out)] at this
            rw [Hq2.out, this]
      · go_enter Tryd.func15, Tryd.ntmps15
        go_wp2_with fail
        go_ret
        exact ⟨ret_bool (by rw [Hq.out, decide_eq_false (p := (n : Int) ≤ lim) (by omega)]; simp), (Below.refl _ _).alloc (Nat.le_refl _) _⟩
    · go_enter Tryd.func15, Tryd.ntmps15
      go_wp2_with fail
      go_ret
      exact ⟨ret_bool (by rw [Hq.out, decide_eq_false (p := lim ≤ 4096) (by omega)]; simp), (Below.refl _ _).alloc (Nat.le_refl _) _⟩
  · go_enter Tryd.func15, Tryd.ntmps15
    go_wp2_with fail
    go_ret
    exact ⟨ret_bool (by rw [Hq.out, decide_eq_false (p := 1 ≤ lim) (by omega)]; simp), (Below.refl _ _).alloc (Nat.le_refl _) _⟩
end Go.Proofs.YtodjjcnidgmkmaaDoor
