/- Walks: the document's Last; Newer of both. (Printed by mknewer.py.) -/
import Derived.Test.YtepcmjclaeidjaaMay
namespace Go.Proofs.Ytepcmjclaeidjaa
open Go.RowKit
set_option maxRecDepth 100000
set_option linter.unusedVariables false
set_option linter.unusedSimpArgs false
set_option maxHeartbeats 800000 in
theorem lastR_any (b t : Int) (A : Option Addr) (n c : Nat) (L : List Er) (w : World) {ok : Nat → Prop} (hr : Rd w ok 4 A n (flat ecell L)) (hw : Wel L) (hn : n ≤ 1000000) :
    Calls Try.prog 19 #[.agg #[.int .i64 b, .int .i64 t, .slice A n c]] w (TwoInt w (if lmay b t (L.map en) then lstA b (L.map en) else 0) (if lmay b t (L.map en) then lstB t (L.map en) else 0)) := by
  have hll := hr.flen ecell_len (by omega)
  have hm := fun ob => mayR_any b t A n c L (w.alloc ob) (hr.alloc ob) hw hn
  generalize lmay b t (L.map en) = q at hm
  have Hm := Lib.hid hm
  have Bb := Lib.hid (Bx.new w #[.int .i64 b, .int .i64 t, .slice A n c] 24 rfl)
  clear hm hw
  cases q
  · clear hr
    go_enter Try.func19, Try.ntmps19
    go_wp2_with fail
    refine (Hm.out _).mono ?_
    rintro e w2 ⟨rfl, hb2⟩
    go_wp2_with fail
    go_ret2
    exact ⟨rfl, ((Below.refl _ _).alloc (Nat.le_refl _) _).trans (hb2.mono (by simp))⟩
  · by_cases h0 : n = 0
    · subst h0
      obtain rfl : L = [] := List.eq_nil_of_length_eq_zero hll
      clear hll hr
      go_enter Try.func19, Try.ntmps19
      go_wp2_with fail
      refine (Hm.out _).mono ?_
      rintro e w2 ⟨rfl, hb2⟩
      obtain ⟨k0, k1, k2, -⟩ := (Bb.out.below hb2).c3
      go_wp2_with fail
      go_quiet (fail)
      go_wp2_with fail
      go_ret2
      exact ⟨rfl, below_drewN (((Below.refl _ _).alloc (Nat.le_refl _) _).trans (hb2.mono (by simp))) _⟩
    · obtain ⟨m, rfl⟩ : ∃ m, n = m + 1 := ⟨n - 1, by omega⟩
      obtain ⟨bk, o, x, rfl, _, hbl, hx, c0, c1, c2, c3⟩ := er_cells hr (j := m) (by omega)
      obtain ⟨e, he, ha, hb⟩ := lstA_len (b := b) (l := L.map en) (by simp; omega)
      have hex : e = en x := by
        rw [List.getElem?_map, List.length_map, hll, Nat.add_sub_cancel, hx] at he
        exact (Option.some.inj he).symm
      rw [ha, hb t, hex]
      have hA : (en x).a = x.a := rfl
      have hB : (en x).b = x.b := rfl
      rw [hA, hB]
      have hmI : (0 : Int) < (m : Int) + 1 := by omega
      have hm0 : (0 : Int) ≤ (m : Int) := by omega
      have hml : (m : Int) < (m : Int) + 1 := by omega
      have hwm : IntKind.i64.wrap (m : Int) = (m : Int) := by rw [IntKind.wrap_i64]; omega
      have hne : ((m : Int) + 1 == 0) = false := by simp; omega
      have a0 : w.cell? ⟨bk, o + m * 4, none⟩ = some (.int .i64 x.a) := c0
      have a1 : w.cell? ⟨bk, o + m * 4 + 1, none⟩ = some (.int .i64 x.b) := c1
      have C := Lib.hid (And.intro a0 a1)
      clear he ha hb hex hr hll hx c0 c1 c2 c3 a0 a1
      go_enter Try.func19, Try.ntmps19
      go_wp2_with fail
      refine (Hm.out _).mono ?_
      rintro e w2 ⟨rfl, hb2⟩
      obtain ⟨k0, k1, k2, -⟩ := (Bb.out.below hb2).c3
      have hb3 := ((Below.refl w.heap.size w).alloc (Nat.le_refl _) (.cells #[.int .i64 b, .int .i64 t, .slice (some ⟨bk, o, none⟩) (m + 1) c] 24)).trans (hb2.mono (by simp))
      have a0 : w2.cell? ⟨bk, o + m * 4, none⟩ = some (.int .i64 x.a) := (hb3.cell (p := ⟨bk, o + m * 4, none⟩) hbl).trans C.out.1
      have a1 : w2.cell? ⟨bk, o + m * 4 + 1, none⟩ = some (.int .i64 x.b) := (hb3.cell (p := ⟨bk, o + m * 4 + 1, none⟩) hbl).trans C.out.2
      clear hb2
      go_wp2_with fail
      go_quiet (fail)
      go_wp2_with fail
      go_ret2
      exact ⟨rfl, below_drewN hb3 _⟩
def newB (b t : Int) (l : List En) (ix tm : Int) : Bool := lmay b t l && (decide (lstB t l < tm) || decide (tm = lstB t l) && decide (lstA b l ≤ ix))
set_option maxHeartbeats 1600000 in
theorem newer_any (b t ix tm : Int) (A : Option Addr) (n c : Nat) (L : List Er) (w : World) {ok : Nat → Prop} (hr : Rd w ok 4 A n (flat ecell L)) (hw : Wel L) (hn : n ≤ 1000000) :
    Calls Try.prog 7 #[.agg #[.int .i64 b, .int .i64 t, .slice A n c], .int .i64 ix, .int .i64 tm] w (BoolPost w (newB b t (L.map en) ix tm)) := by
  have hla := fun ob => last_any b t A n c L (w.alloc ob) (hr.alloc ob) hn
  have hma := fun W (hb : Below w.heap.size w W) => may_any b t A n c L W (hr.below hb) hw hn
  obtain ⟨V, hV⟩ : ∃ V, newB b t (L.map en) ix tm = V := ⟨_, rfl⟩
  rw [hV]
  unfold newB at hV
  generalize lmay b t (L.map en) = q at hla hma hV
  generalize lstA b (L.map en) = x at hla hV
  generalize lstB t (L.map en) = y at hla hV
  have Bb := Lib.hid (Bx.new w #[.int .i64 b, .int .i64 t, .slice A n c] 30 rfl)
  have Hla := Lib.hid hla
  have Hma := Lib.hid hma
  clear hla hma hr hw
  have HV := Lib.hid hV
  clear hV
  cases q
  · go_enter Try.func7, Try.ntmps7
    go_wp2_with fail
    refine (Hla.out _).mono ?_
    rintro e w2 ⟨rfl, hb2⟩
    obtain ⟨k0, k1, k2, -⟩ := (Bb.out.below hb2).c3
    have hb3 := ((Below.refl w.heap.size w).alloc (Nat.le_refl _) (.cells #[.int .i64 b, .int .i64 t, .slice A n c] 30)).trans (hb2.mono (by simp))
    clear hb2
    go_wp2_with fail
    refine (Hma.out _ hb3).mono ?_
    rintro e w3 ⟨rfl, hb4⟩
    go_wp2_with fail
    go_ret
    exact ⟨ret_bool (by rw [← HV.out]; simp_all), hb3.trans (hb4.mono hb3.size)⟩
  · by_cases h1 : y < tm
    · have h1d : decide (y < tm) = true := decide_eq_true h1
      go_enter Try.func7, Try.ntmps7
      go_wp2_with fail
      refine (Hla.out _).mono ?_
      rintro e w2 ⟨rfl, hb2⟩
      obtain ⟨k0, k1, k2, -⟩ := (Bb.out.below hb2).c3
      have hb3 := ((Below.refl w.heap.size w).alloc (Nat.le_refl _) (.cells #[.int .i64 b, .int .i64 t, .slice A n c] 30)).trans (hb2.mono (by simp))
      clear hb2
      go_wp2_with fail
      refine (Hma.out _ hb3).mono ?_
      rintro e w3 ⟨rfl, hb4⟩
      go_wp2_with fail
      go_ret
      exact ⟨ret_bool (by rw [← HV.out]; simp_all), hb3.trans (hb4.mono hb3.size)⟩
    · have h1d : decide (y < tm) = false := decide_eq_false h1
      by_cases h2 : tm = y
      · subst h2
        by_cases h3 : x ≤ ix
        · have h3d : decide (x ≤ ix) = true := decide_eq_true h3
          go_enter Try.func7, Try.ntmps7
          go_wp2_with fail
          refine (Hla.out _).mono ?_
          rintro e w2 ⟨rfl, hb2⟩
          obtain ⟨k0, k1, k2, -⟩ := (Bb.out.below hb2).c3
          have hb3 := ((Below.refl w.heap.size w).alloc (Nat.le_refl _) (.cells #[.int .i64 b, .int .i64 t, .slice A n c] 30)).trans (hb2.mono (by simp))
          clear hb2
          go_wp2_with fail
          refine (Hma.out _ hb3).mono ?_
          rintro e w3 ⟨rfl, hb4⟩
          go_wp2_with fail
          go_ret
          exact ⟨ret_bool (by rw [← HV.out]; simp_all), hb3.trans (hb4.mono hb3.size)⟩
        · have h3d : decide (x ≤ ix) = false := decide_eq_false h3
          go_enter Try.func7, Try.ntmps7
          go_wp2_with fail
          refine (Hla.out _).mono ?_
          rintro e w2 ⟨rfl, hb2⟩
          obtain ⟨k0, k1, k2, -⟩ := (Bb.out.below hb2).c3
          have hb3 := ((Below.refl w.heap.size w).alloc (Nat.le_refl _) (.cells #[.int .i64 b, .int .i64 t, .slice A n c] 30)).trans (hb2.mono (by simp))
          clear hb2
          go_wp2_with fail
          refine (Hma.out _ hb3).mono ?_
          rintro e w3 ⟨rfl, hb4⟩
          go_wp2_with fail
          go_ret
          exact ⟨ret_bool (by rw [← HV.out]; simp_all), hb3.trans (hb4.mono hb3.size)⟩
      · have h2d : (tm == y) = false := by simpa using h2
        go_enter Try.func7, Try.ntmps7
        go_wp2_with fail
        refine (Hla.out _).mono ?_
        rintro e w2 ⟨rfl, hb2⟩
        obtain ⟨k0, k1, k2, -⟩ := (Bb.out.below hb2).c3
        have hb3 := ((Below.refl w.heap.size w).alloc (Nat.le_refl _) (.cells #[.int .i64 b, .int .i64 t, .slice A n c] 30)).trans (hb2.mono (by simp))
        clear hb2
        go_wp2_with fail
        refine (Hma.out _ hb3).mono ?_
        rintro e w3 ⟨rfl, hb4⟩
        go_wp2_with fail
        go_ret
        exact ⟨ret_bool (by rw [← HV.out]; simp_all), hb3.trans (hb4.mono hb3.size)⟩
set_option maxHeartbeats 1600000 in
theorem newerR_any (b t ix tm : Int) (A : Option Addr) (n c : Nat) (L : List Er) (w : World) {ok : Nat → Prop} (hr : Rd w ok 4 A n (flat ecell L)) (hw : Wel L) (hn : n ≤ 1000000) :
    Calls Try.prog 9 #[.agg #[.int .i64 b, .int .i64 t, .slice A n c], .int .i64 ix, .int .i64 tm] w (BoolPost w (newB b t (L.map en) ix tm)) := by
  have hla := fun ob => lastR_any b t A n c L (w.alloc ob) (hr.alloc ob) hw hn
  have hma := fun W (hb : Below w.heap.size w W) => mayR_any b t A n c L W (hr.below hb) hw hn
  obtain ⟨V, hV⟩ : ∃ V, newB b t (L.map en) ix tm = V := ⟨_, rfl⟩
  rw [hV]
  unfold newB at hV
  generalize lmay b t (L.map en) = q at hla hma hV
  generalize lstA b (L.map en) = x at hla hV
  generalize lstB t (L.map en) = y at hla hV
  have Bb := Lib.hid (Bx.new w #[.int .i64 b, .int .i64 t, .slice A n c] 24 rfl)
  have Hla := Lib.hid hla
  have Hma := Lib.hid hma
  clear hla hma hr hw
  have HV := Lib.hid hV
  clear hV
  cases q
  · go_enter Try.func9, Try.ntmps9
    go_wp2_with fail
    refine (Hla.out _).mono ?_
    rintro e w2 ⟨rfl, hb2⟩
    simp only [if_true, Bool.false_eq_true, if_false]
    obtain ⟨k0, k1, k2, -⟩ := (Bb.out.below hb2).c3
    have hb3 := ((Below.refl w.heap.size w).alloc (Nat.le_refl _) (.cells #[.int .i64 b, .int .i64 t, .slice A n c] 24)).trans (hb2.mono (by simp))
    clear hb2
    go_wp2_with fail
    refine (Hma.out _ hb3).mono ?_
    rintro e w3 ⟨rfl, hb4⟩
    go_wp2_with fail
    go_ret
    exact ⟨ret_bool (by rw [← HV.out]; simp_all), hb3.trans (hb4.mono hb3.size)⟩
  · by_cases h1 : y < tm
    · have h1d : decide (y < tm) = true := decide_eq_true h1
      go_enter Try.func9, Try.ntmps9
      go_wp2_with fail
      refine (Hla.out _).mono ?_
      rintro e w2 ⟨rfl, hb2⟩
      simp only [if_true, Bool.false_eq_true, if_false]
      obtain ⟨k0, k1, k2, -⟩ := (Bb.out.below hb2).c3
      have hb3 := ((Below.refl w.heap.size w).alloc (Nat.le_refl _) (.cells #[.int .i64 b, .int .i64 t, .slice A n c] 24)).trans (hb2.mono (by simp))
      clear hb2
      go_wp2_with fail
      refine (Hma.out _ hb3).mono ?_
      rintro e w3 ⟨rfl, hb4⟩
      go_wp2_with fail
      go_ret
      exact ⟨ret_bool (by rw [← HV.out]; simp_all), hb3.trans (hb4.mono hb3.size)⟩
    · have h1d : decide (y < tm) = false := decide_eq_false h1
      by_cases h2 : tm = y
      · subst h2
        by_cases h3 : x ≤ ix
        · have h3d : decide (x ≤ ix) = true := decide_eq_true h3
          go_enter Try.func9, Try.ntmps9
          go_wp2_with fail
          refine (Hla.out _).mono ?_
          rintro e w2 ⟨rfl, hb2⟩
          simp only [if_true, Bool.false_eq_true, if_false]
          obtain ⟨k0, k1, k2, -⟩ := (Bb.out.below hb2).c3
          have hb3 := ((Below.refl w.heap.size w).alloc (Nat.le_refl _) (.cells #[.int .i64 b, .int .i64 t, .slice A n c] 24)).trans (hb2.mono (by simp))
          clear hb2
          go_wp2_with fail
          refine (Hma.out _ hb3).mono ?_
          rintro e w3 ⟨rfl, hb4⟩
          go_wp2_with fail
          go_ret
          exact ⟨ret_bool (by rw [← HV.out]; simp_all), hb3.trans (hb4.mono hb3.size)⟩
        · have h3d : decide (x ≤ ix) = false := decide_eq_false h3
          go_enter Try.func9, Try.ntmps9
          go_wp2_with fail
          refine (Hla.out _).mono ?_
          rintro e w2 ⟨rfl, hb2⟩
          simp only [if_true, Bool.false_eq_true, if_false]
          obtain ⟨k0, k1, k2, -⟩ := (Bb.out.below hb2).c3
          have hb3 := ((Below.refl w.heap.size w).alloc (Nat.le_refl _) (.cells #[.int .i64 b, .int .i64 t, .slice A n c] 24)).trans (hb2.mono (by simp))
          clear hb2
          go_wp2_with fail
          refine (Hma.out _ hb3).mono ?_
          rintro e w3 ⟨rfl, hb4⟩
          go_wp2_with fail
          go_ret
          exact ⟨ret_bool (by rw [← HV.out]; simp_all), hb3.trans (hb4.mono hb3.size)⟩
      · have h2d : (tm == y) = false := by simpa using h2
        go_enter Try.func9, Try.ntmps9
        go_wp2_with fail
        refine (Hla.out _).mono ?_
        rintro e w2 ⟨rfl, hb2⟩
        simp only [if_true, Bool.false_eq_true, if_false]
        obtain ⟨k0, k1, k2, -⟩ := (Bb.out.below hb2).c3
        have hb3 := ((Below.refl w.heap.size w).alloc (Nat.le_refl _) (.cells #[.int .i64 b, .int .i64 t, .slice A n c] 24)).trans (hb2.mono (by simp))
        clear hb2
        go_wp2_with fail
        refine (Hma.out _ hb3).mono ?_
        rintro e w3 ⟨rfl, hb4⟩
        go_wp2_with fail
        go_ret
        exact ⟨ret_bool (by rw [← HV.out]; simp_all), hb3.trans (hb4.mono hb3.size)⟩
end Go.Proofs.Ytepcmjclaeidjaa
