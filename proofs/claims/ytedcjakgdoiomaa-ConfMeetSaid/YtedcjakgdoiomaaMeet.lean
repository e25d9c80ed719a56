/- Walk of tollbarlaw10.ConfMeet. (Printed by mkmeet.py.) -/
import Derived.Test.YtedcjakgdoiomaaTurns
import Derived.Test.YtedcjakgdoiomaaConf2
import Derived.BigQuiet
namespace Go.Proofs.Ytedcjakgdoiomaa
open Go.RowKit
set_option maxRecDepth 100000
set_option linter.unusedVariables false
set_option linter.unusedSimpArgs false
/-- Two that are near as the law makes them. -/
def Apt (l L : List Int) : Prop := near l L = true ∧ cmay L = true ∧ (((∀ z ∈ l, z ∈ L) ∧ L.length ≤ l.length + 1) ∨ ((∀ z ∈ L, z ∈ l) ∧ l.length ≤ L.length + 1))
theorem apt_self {l : List Int} (hc : cmay l = true) : Apt l l := ⟨near_self hc, hc, .inl ⟨fun _ h => h, by omega⟩⟩
theorem apt_add {l : List Int} {z : Int} (h : (addOf l z).1 = 0) : addOf l z = (0, ins z l) ∧ Apt l (ins z l) := by
  obtain ⟨e, hc, h1, h2, h3, h4⟩ := addOf_zero h
  exact ⟨e, (near_ins hc h3 h1 h2 h4).1, ins_may hc h3 h1 h2 h4, .inl ⟨fun u hu => mem_ins.2 (.inr hu), by rw [ins_length]; omega⟩⟩
theorem apt_rem {l : List Int} {z : Int} (h : (remOf l z).1 = 0) : remOf l z = (0, del z l) ∧ Apt l (del z l) := by
  obtain ⟨e, hc, h1, h2⟩ := remOf_zero h
  exact ⟨e, (near_del hc h1 h2).1, del_may hc h1 h2, .inr ⟨fun u hu => (mem_del.1 hu).1, by have := del_length (cmay_iff.1 hc).2.1 h1; omega⟩⟩
theorem quor_lt {c s : List Int} (h : quor c s = true) : c.length < 2 * cnt s c := by
  unfold quor at h
  simp only [Bool.and_eq_true, decide_eq_true_eq] at h
  exact h.2
theorem apt_meet {l L s o : List Int} (hc : cmay l = true) (h : Apt l L) (h1 : quor l s = true) (h2 : quor L o = true) : ∃ z ∈ s, z ∈ l ∧ z ∈ L ∧ z ∈ o :=
  meet (cmay_iff.1 hc).2.1 (cmay_iff.1 h.2.1).2.1 (quor_lt h1) (quor_lt h2) h.2.2
theorem meet_far (A : Option Addr) (n c : Nat) (z : Int) (B : Option Addr) (m d : Nat) (C : Option Addr) (q f : Nat) (w : World) (h : 300 < (n : Int) ∨ ((n : Int) ≤ 300 ∧ 300 < (m : Int)) ∨ ((n : Int) ≤ 300 ∧ (m : Int) ≤ 300 ∧ 300 < (q : Int))) :
    Calls Try.prog 8 #[.slice A n c, .int .i64 z, .agg #[.slice B m d, .slice C q f]] w (YesPost w) := by
  rcases h with h | ⟨h0, h⟩ | ⟨h0, h1, h⟩
  all_goals
    try have h0d : decide (300 < (n : Int)) = false := decide_eq_false (by omega)
    try have h1d : decide (300 < (m : Int)) = false := decide_eq_false (by omega)
    go_enter Try.func8, Try.ntmps8
    go_wp2_with fail
    go_quiet (fail)
    go_wp2_with fail
    refine (sure_any _).mono ?_
    rintro e w1 ⟨rfl, hb1⟩
    go_wp2_with fail
    go_ret
    have hb0 := fun k => below_drewN ((Below.refl w.heap.size w).alloc (Nat.le_refl _) (.cells #[.slice B m d, .slice C q f] 41)) k
    exact ⟨rfl, (hb0 _).trans (hb1.mono (hb0 _).size)⟩
set_option maxHeartbeats 3200000 in
theorem meet_bad (A : Option Addr) (n c : Nat) (l : List Int) (z : Int) (B : Option Addr) (m d : Nat) (s : List Int) (C : Option Addr) (q f : Nat) (o : List Int) (w : World) {ok ok1 ok2 : Nat → Prop} (hr : Rd w ok 1 A n (ii l)) (hs : Rd w ok1 1 B m (ii s)) (ho : Rd w ok2 1 C q (ii o)) (hn : (n : Int) ≤ 300) (hmm : (m : Int) ≤ 300) (hqq : (q : Int) ≤ 300) (hc : cmay l = false) :
    Calls Try.prog 8 #[.slice A n c, .int .i64 z, .agg #[.slice B m d, .slice C q f]] w (YesPost w) := by
  have hnd : decide (300 < (n : Int)) = false := decide_eq_false (by omega)
  have hmd : decide (300 < (m : Int)) = false := decide_eq_false (by omega)
  have hqd : decide (300 < (q : Int)) = false := decide_eq_false (by omega)
  have hll := ii_len hr
  have hls := ii_len hs
  have hown := fun (W : World) (hb : Below w.heap.size w W) => own_any A n c l W (hr.below hb) (by omega)
  have hchk := fun W A c (h : Rd W T 1 A n (ii l)) => chk_any A n c l W h (by omega)
  have hhas := fun W A c u (h : Rd W T 1 A n (ii l)) => hasM_any A n c l u W h (by omega)
  have hq1 := fun W A c (h : Rd W T 1 A n (ii l)) (hb : Below w.heap.size w W) => quorum_any A n c l B m d s W h (by omega) (hs.below hb) (by omega)
  have hin := fun W u (hb : Below w.heap.size w W) => in_any C q f o u W (ho.below hb) (by omega)
  have hs2 := fun (W : World) (hb : Below w.heap.size w W) => hs.below hb
  have hadd := fun W A c (h : Rd W T 1 A n (ii l)) => add_any A n c l z W h (by omega)
  have hm : (addOf l z).1 ≠ 0 := by unfold addOf; rw [if_pos (.inl hc)]; decide
  have hqf : quor l s = false := by unfold quor; rw [hc]; rfl
  have hnf : near l l = false := by unfold near; rw [hc]; rfl
  have hnear := fun W A c B d (h1 : Rd W T 1 A n (ii l)) (h2 : Rd W T 1 B n (ii l)) => near_any A n c l B n d l W h1 (by omega) h2 (by omega)
  rw [hnf] at hnear
  rw [hqf] at hq1
  rw [hc] at hchk hhas
  simp only [Bool.false_and] at hhas
  have hq2 := hq1
  have hhasY := hhas
  clear hqf hnf
  have Hown := Lib.hid hown
  have Hchk := Lib.hid hchk
  have Hhas := Lib.hid hhas
  have Hq1 := Lib.hid hq1
  have Hin := Lib.hid hin
  have Hs2 := Lib.hid hs2
  have Hnear := Lib.hid hnear
  have HhasY := Lib.hid hhasY
  have Hq2 := Lib.hid hq2
  have Hll := Lib.hid hll
  have Hls := Lib.hid hls
  have Hm := Lib.hid hm
  have Hadd := Lib.hid hadd
  clear hown hchk hhas hq1 hin hs2 hnear hhasY hq2 hll hls hm hr hs ho hc hadd
  have hb := fun k => below_drewN ((Below.refl w.heap.size w).alloc (Nat.le_refl _) (.cells #[.slice B m d, .slice C q f] 41)) k
  go_enter Try.func8, Try.ntmps8
  go_wp2_with fail
  go_quiet (fail)
  go_wp2_with fail
  refine (Hown.out _ (hb _)).mono ?_
  rintro e w1 ⟨A1, c1, rfl, ho1, hb2⟩
  have R1 := Lib.hid (Rd.of_own ho1).any
  replace hb := (hb _).trans (hb2.mono (hb _).size)
  clear ho1 hb2
  go_wp2_with fail
  refine (Hhas.out w1 A1 c1 z R1.out).mono ?_
  rintro e w2 ⟨rfl, rfl⟩
  go_wp2_with fail
  refine (Hadd.out w1 A1 c1 R1.out).mono ?_
  rintro e w3 hp
  obtain ⟨A3, c3, rfl, hb2⟩ := hp.no Hm.out
  replace R1 := Lib.hid (R1.out.below hb2)
  replace hb := hb.trans (hb2.mono hb.size)
  clear hp hb2
  go_wp2_with fail
  refine (Hchk.out w3 A1 c1 R1.out).mono ?_
  rintro e w4 ⟨rfl, rfl⟩
  go_wp2_with fail
  refine (Hq1.out w3 A1 c1 R1.out hb).mono ?_
  rintro e w4 ⟨rfl, rfl⟩
  go_wp2_with fail
  refine (Hnear.out w3 A1 c1 A1 c1 R1.out R1.out).mono ?_
  rintro e w4 ⟨rfl, rfl⟩
  go_wp2_with fail
  refine (sure_any _).mono ?_
  rintro e w15 ⟨rfl, hb2⟩
  go_wp2_with fail
  go_ret
  exact ⟨rfl, hb.trans (hb2.mono hb.size)⟩
set_option maxHeartbeats 3200000 in
theorem meet_rem (A : Option Addr) (n c : Nat) (l : List Int) (z : Int) (B : Option Addr) (m d : Nat) (s : List Int) (C : Option Addr) (q f : Nat) (o : List Int) (w : World) {ok ok1 ok2 : Nat → Prop} (hr : Rd w ok 1 A n (ii l)) (hs : Rd w ok1 1 B m (ii s)) (ho : Rd w ok2 1 C q (ii o)) (hn : (n : Int) ≤ 300) (hmm : (m : Int) ≤ 300) (hqq : (q : Int) ≤ 300) (hc : cmay l = true) (hz : z ∈ l) (hm : (remOf l z).1 = 0) :
    Calls Try.prog 8 #[.slice A n c, .int .i64 z, .agg #[.slice B m d, .slice C q f]] w (YesPost w) := by
  have hnd : decide (300 < (n : Int)) = false := decide_eq_false (by omega)
  have hmd : decide (300 < (m : Int)) = false := decide_eq_false (by omega)
  have hqd : decide (300 < (q : Int)) = false := decide_eq_false (by omega)
  have hll := ii_len hr
  have hls := ii_len hs
  have hown := fun (W : World) (hb : Below w.heap.size w W) => own_any A n c l W (hr.below hb) (by omega)
  have hchk := fun W A c (h : Rd W T 1 A n (ii l)) => chk_any A n c l W h (by omega)
  have hhas := fun W A c u (h : Rd W T 1 A n (ii l)) => hasM_any A n c l u W h (by omega)
  have hq1 := fun W A c (h : Rd W T 1 A n (ii l)) (hb : Below w.heap.size w W) => quorum_any A n c l B m d s W h (by omega) (hs.below hb) (by omega)
  have hin := fun W u (hb : Below w.heap.size w W) => in_any C q f o u W (ho.below hb) (by omega)
  have hs2 := fun (W : World) (hb : Below w.heap.size w W) => hs.below hb
  rw [hc] at hchk hhas
  simp only [Bool.true_and] at hhas
  have hmod := fun W A c (h : Rd W T 1 A n (ii l)) => rem_any A n c l z W h (by omega)
  obtain ⟨t5, hapt⟩ := apt_rem hm
  have hL : (del z l).length ≤ 1000000 := by have := del_length (cmay_iff.1 hc).2.1 hz; omega
  rw [t5] at hmod
  generalize del z l = L at hmod hapt hL t5
  obtain ⟨k, hk1⟩ : ∃ k, L.length = k := ⟨_, rfl⟩
  rw [hk1] at hL
  have hnear := fun W A c B d (h1 : Rd W T 1 A n (ii l)) (h2 : Rd W T 1 B k (ii L)) => near_any A n c l B k d L W h1 (by omega) h2 hL
  rw [hapt.1] at hnear
  have hhasY := fun W A c u (h : Rd W T 1 A k (ii L)) => hasM_any A k c L u W h hL
  rw [hapt.2.1] at hhasY
  simp only [Bool.true_and] at hhasY
  have hq2 := fun W A c (h : Rd W T 1 A k (ii L)) (hb : Below w.heap.size w W) => quorum_any A k c L C q f o W h hL (ho.below hb) (by omega)
  have hend := fun h1 h2 => apt_meet (s := s) (o := o) hc hapt h1 h2
  have hzd : decide (z ∈ l) = true := decide_eq_true hz
  generalize hqa : quor l s = qa at hq1 hend
  generalize hqb : quor L o = qb at hq2 hend
  have Hend := Lib.hid hend
  have Hown := Lib.hid hown
  have Hchk := Lib.hid hchk
  have Hhas := Lib.hid hhas
  have Hq1 := Lib.hid hq1
  have Hin := Lib.hid hin
  have Hs2 := Lib.hid hs2
  have Hnear := Lib.hid hnear
  have HhasY := Lib.hid hhasY
  have Hq2 := Lib.hid hq2
  have Hll := Lib.hid hll
  have Hls := Lib.hid hls
  have Hm := Lib.hid hm
  have Hmod := Lib.hid hmod
  have Hzd := Lib.hid hzd
  have Hk1 := Lib.hid hk1
  clear hown hchk hhas hq1 hin hs2 hnear hhasY hq2 hll hls hm hr hs ho hc hmod hzd hz hend hqa hqb hapt hk1 t5
  have hb := fun k => below_drewN ((Below.refl w.heap.size w).alloc (Nat.le_refl _) (.cells #[.slice B m d, .slice C q f] 41)) k
  go_enter Try.func8, Try.ntmps8
  go_wp2_with fail
  go_quiet (fail)
  go_wp2_with fail
  refine (Hown.out _ (hb _)).mono ?_
  rintro e w1 ⟨A1, c1, rfl, ho1, hb2⟩
  have R1 := Lib.hid (Rd.of_own ho1).any
  replace hb := (hb _).trans (hb2.mono (hb _).size)
  clear ho1 hb2
  go_wp2_with fail
  refine (Hhas.out w1 A1 c1 z R1.out).mono ?_
  rintro e w2 ⟨rfl, rfl⟩
  rw [Hzd.out]
  go_wp2_with fail
  refine (Hmod.out w1 A1 c1 R1.out).mono ?_
  rintro e w3 hp
  obtain ⟨A3, c3, rfl, hq, hb2⟩ := hp.yes Hk1.out
  have R3 := Lib.hid hq
  replace R1 := Lib.hid (R1.out.below hb2)
  replace hb := hb.trans (hb2.mono hb.size)
  clear hp hb2 hq
  go_wp2_with fail
  refine (Hchk.out w3 A1 c1 R1.out).mono ?_
  rintro e w4 ⟨rfl, rfl⟩
  go_wp2_with fail
  refine (Hnear.out w3 A1 c1 A3 c3 R1.out R3.out).mono ?_
  rintro e w4 ⟨rfl, rfl⟩
  go_wp2_with fail
  refine (Hq1.out w3 A1 c1 R1.out hb).mono ?_
  rintro e w4 ⟨rfl, rfl⟩
  cases qa
  · go_wp2_with fail
    refine (sure_any _).mono ?_
    rintro e w15 ⟨rfl, hb2⟩
    go_wp2_with fail
    go_ret
    exact ⟨rfl, hb.trans (hb2.mono hb.size)⟩
  · go_wp2_with fail
    refine (Hq2.out w3 A3 c3 R3.out hb).mono ?_
    rintro e w4 ⟨rfl, rfl⟩
    cases qb
    · go_wp2_with fail
      refine (sure_any _).mono ?_
      rintro e w15 ⟨rfl, hb2⟩
      go_wp2_with fail
      go_ret
      exact ⟨rfl, hb.trans (hb2.mono hb.size)⟩
    · have Hb := Lib.hid hb
      clear hb
      go_wp2_with fail
      go_loopg [15] m (fun r s15 wr => ∃ i : Nat, r = m - i ∧ i ≤ m ∧ s15 = .int .i64 i ∧ (∀ u ∈ s.take i, ¬ (u ∈ l ∧ u ∈ L ∧ u ∈ o)) ∧ wr = w3)
      case atStart => exact ⟨0, by omega, by omega, rfl, by simp, rfl⟩
      case round =>
        obtain ⟨i, hrm, hi, rfl, hno, rfl⟩ := hrel
        have Hrm := Lib.hid hrm
        have Hno := Lib.hid hno
        clear hrm hno
        by_cases hlt : i < m
        · have hltI : (i : Int) < m := by omega
          obtain ⟨b, o1, u, rfl, _, _, hx, hc⟩ := ii_cell (Hs2.out wr Hb.out) hlt
          have Hx := Lib.hid hx
          clear hx
          have next : ¬ (u ∈ l ∧ u ∈ L ∧ u ∈ o) → ∀ v ∈ s.take (i + 1), ¬ (v ∈ l ∧ v ∈ L ∧ v ∈ o) := by
            intro h v hv
            rw [List.take_add_one, Hx.out] at hv
            simp only [Option.toList_some, List.mem_append, List.mem_singleton] at hv
            rcases hv with hv | rfl
            · exact Hno.out v hv
            · exact h
          have Next := Lib.hid next
          clear next
          have e1 := Hhas.out wr A1 c1 u R1.out
          have e2 := HhasY.out wr A3 c3 u R3.out
          have e3 := Hin.out wr u Hb.out
          by_cases p1 : u ∈ l
          · rw [decide_eq_true p1] at e1
            by_cases p2 : u ∈ L
            · try rw [decide_eq_true p2] at e2
              by_cases p3 : u ∈ o
              · rw [decide_eq_true p3] at e3
                have E1 := Lib.hid e1
                have E2 := Lib.hid e2
                have E3 := Lib.hid e3
                clear e1 e2 e3 p1 p2 p3
                go_wp2_with fail
                refine E1.out.mono ?_
                rintro e w4 ⟨rfl, rfl⟩
                go_wp2_with fail
                refine E2.out.mono ?_
                rintro e w4 ⟨rfl, rfl⟩
                go_wp2_with fail
                refine E3.out.mono ?_
                rintro e w4 ⟨rfl, rfl⟩
                go_wp2_with fail
                refine (sure_any _).mono ?_
                rintro e w15 ⟨rfl, hb2⟩
                go_wp2_with fail
                go_ret
                exact ⟨rfl, Hb.out.trans (hb2.mono Hb.out.size)⟩
              · rw [decide_eq_false p3] at e3
                have Nx := Lib.hid (Next.out fun h => p3 h.2.2)
                have E1 := Lib.hid e1
                have E2 := Lib.hid e2
                have E3 := Lib.hid e3
                clear e1 e2 e3 p1 p2 p3
                go_wp2_with fail
                refine E1.out.mono ?_
                rintro e w4 ⟨rfl, rfl⟩
                go_wp2_with fail
                refine E2.out.mono ?_
                rintro e w4 ⟨rfl, rfl⟩
                go_wp2_with fail
                refine E3.out.mono ?_
                rintro e w4 ⟨rfl, rfl⟩
                go_wp2_with fail
                go_roundg (m - (i + 1))
                case measure => have := Hrm.out; omega
                case rel => exact ⟨i + 1, rfl, by omega, by go_num, Nx.out, rfl⟩
            · try rw [decide_eq_false p2] at e2
              have Nx := Lib.hid (Next.out fun h => p2 h.2.1)
              have E1 := Lib.hid e1
              have E2 := Lib.hid e2
              clear e1 e2 e3 p1
              clear p2
              go_wp2_with fail
              refine E1.out.mono ?_
              rintro e w4 ⟨rfl, rfl⟩
              go_wp2_with fail
              refine E2.out.mono ?_
              rintro e w4 ⟨rfl, rfl⟩
              go_wp2_with fail
              go_roundg (m - (i + 1))
              case measure => have := Hrm.out; omega
              case rel => exact ⟨i + 1, rfl, by omega, by go_num, Nx.out, rfl⟩
          · rw [decide_eq_false p1] at e1
            have Nx := Lib.hid (Next.out fun h => p1 h.1)
            have E1 := Lib.hid e1
            clear e1 e2 e3 p1
            go_wp2_with fail
            refine E1.out.mono ?_
            rintro e w4 ⟨rfl, rfl⟩
            go_wp2_with fail
            go_roundg (m - (i + 1))
            case measure => have := Hrm.out; omega
            case rel => exact ⟨i + 1, rfl, by omega, by go_num, Nx.out, rfl⟩
        · obtain rfl : i = m := by omega
          exfalso
          obtain ⟨u, hu, h1, h2, h3⟩ := Hend.out trivial trivial
          have := Hno.out
          rw [List.take_of_length_le (Nat.le_of_eq Hls.out)] at this
          exact this u hu ⟨h1, h2, h3⟩
set_option maxHeartbeats 3200000 in
theorem meet_remno (A : Option Addr) (n c : Nat) (l : List Int) (z : Int) (B : Option Addr) (m d : Nat) (s : List Int) (C : Option Addr) (q f : Nat) (o : List Int) (w : World) {ok ok1 ok2 : Nat → Prop} (hr : Rd w ok 1 A n (ii l)) (hs : Rd w ok1 1 B m (ii s)) (ho : Rd w ok2 1 C q (ii o)) (hn : (n : Int) ≤ 300) (hmm : (m : Int) ≤ 300) (hqq : (q : Int) ≤ 300) (hc : cmay l = true) (hz : z ∈ l) (hm : (remOf l z).1 ≠ 0) :
    Calls Try.prog 8 #[.slice A n c, .int .i64 z, .agg #[.slice B m d, .slice C q f]] w (YesPost w) := by
  have hnd : decide (300 < (n : Int)) = false := decide_eq_false (by omega)
  have hmd : decide (300 < (m : Int)) = false := decide_eq_false (by omega)
  have hqd : decide (300 < (q : Int)) = false := decide_eq_false (by omega)
  have hll := ii_len hr
  have hls := ii_len hs
  have hown := fun (W : World) (hb : Below w.heap.size w W) => own_any A n c l W (hr.below hb) (by omega)
  have hchk := fun W A c (h : Rd W T 1 A n (ii l)) => chk_any A n c l W h (by omega)
  have hhas := fun W A c u (h : Rd W T 1 A n (ii l)) => hasM_any A n c l u W h (by omega)
  have hq1 := fun W A c (h : Rd W T 1 A n (ii l)) (hb : Below w.heap.size w W) => quorum_any A n c l B m d s W h (by omega) (hs.below hb) (by omega)
  have hin := fun W u (hb : Below w.heap.size w W) => in_any C q f o u W (ho.below hb) (by omega)
  have hs2 := fun (W : World) (hb : Below w.heap.size w W) => hs.below hb
  rw [hc] at hchk hhas
  simp only [Bool.true_and] at hhas
  have hmod := fun W A c (h : Rd W T 1 A n (ii l)) => rem_any A n c l z W h (by omega)
  have hapt := apt_self hc
  have hL : n ≤ 1000000 := by omega
  have hnear := fun W A c B d (h1 : Rd W T 1 A n (ii l)) (h2 : Rd W T 1 B n (ii l)) => near_any A n c l B n d l W h1 (by omega) h2 hL
  rw [hapt.1] at hnear
  have hhasY := fun W A c u (h : Rd W T 1 A n (ii l)) => hasM_any A n c l u W h hL
  rw [hapt.2.1] at hhasY
  simp only [Bool.true_and] at hhasY
  have hq2 := fun W A c (h : Rd W T 1 A n (ii l)) (hb : Below w.heap.size w W) => quorum_any A n c l C q f o W h hL (ho.below hb) (by omega)
  have hend := fun h1 h2 => apt_meet (s := s) (o := o) hc hapt h1 h2
  have hzd : decide (z ∈ l) = true := decide_eq_true hz
  generalize hqa : quor l s = qa at hq1 hend
  generalize hqb : quor l o = qb at hq2 hend
  have Hend := Lib.hid hend
  have Hown := Lib.hid hown
  have Hchk := Lib.hid hchk
  have Hhas := Lib.hid hhas
  have Hq1 := Lib.hid hq1
  have Hin := Lib.hid hin
  have Hs2 := Lib.hid hs2
  have Hnear := Lib.hid hnear
  have HhasY := Lib.hid hhasY
  have Hq2 := Lib.hid hq2
  have Hll := Lib.hid hll
  have Hls := Lib.hid hls
  have Hm := Lib.hid hm
  have Hmod := Lib.hid hmod
  have Hzd := Lib.hid hzd
  clear hown hchk hhas hq1 hin hs2 hnear hhasY hq2 hll hls hm hr hs ho hc hmod hzd hz hend hqa hqb hapt
  have hb := fun k => below_drewN ((Below.refl w.heap.size w).alloc (Nat.le_refl _) (.cells #[.slice B m d, .slice C q f] 41)) k
  go_enter Try.func8, Try.ntmps8
  go_wp2_with fail
  go_quiet (fail)
  go_wp2_with fail
  refine (Hown.out _ (hb _)).mono ?_
  rintro e w1 ⟨A1, c1, rfl, ho1, hb2⟩
  have R1 := Lib.hid (Rd.of_own ho1).any
  replace hb := (hb _).trans (hb2.mono (hb _).size)
  clear ho1 hb2
  go_wp2_with fail
  refine (Hhas.out w1 A1 c1 z R1.out).mono ?_
  rintro e w2 ⟨rfl, rfl⟩
  rw [Hzd.out]
  go_wp2_with fail
  refine (Hmod.out w1 A1 c1 R1.out).mono ?_
  rintro e w3 hp
  obtain ⟨A3, c3, rfl, hb2⟩ := hp.no Hm.out
  replace R1 := Lib.hid (R1.out.below hb2)
  replace hb := hb.trans (hb2.mono hb.size)
  clear hp hb2
  go_wp2_with fail
  refine (Hchk.out w3 A1 c1 R1.out).mono ?_
  rintro e w4 ⟨rfl, rfl⟩
  go_wp2_with fail
  refine (Hnear.out w3 A1 c1 A1 c1 R1.out R1.out).mono ?_
  rintro e w4 ⟨rfl, rfl⟩
  go_wp2_with fail
  refine (Hq1.out w3 A1 c1 R1.out hb).mono ?_
  rintro e w4 ⟨rfl, rfl⟩
  cases qa
  · go_wp2_with fail
    refine (sure_any _).mono ?_
    rintro e w15 ⟨rfl, hb2⟩
    go_wp2_with fail
    go_ret
    exact ⟨rfl, hb.trans (hb2.mono hb.size)⟩
  · go_wp2_with fail
    refine (Hq2.out w3 A1 c1 R1.out hb).mono ?_
    rintro e w4 ⟨rfl, rfl⟩
    cases qb
    · go_wp2_with fail
      refine (sure_any _).mono ?_
      rintro e w15 ⟨rfl, hb2⟩
      go_wp2_with fail
      go_ret
      exact ⟨rfl, hb.trans (hb2.mono hb.size)⟩
    · have Hb := Lib.hid hb
      clear hb
      go_wp2_with fail
      go_loopg [15] m (fun r s15 wr => ∃ i : Nat, r = m - i ∧ i ≤ m ∧ s15 = .int .i64 i ∧ (∀ u ∈ s.take i, ¬ (u ∈ l ∧ u ∈ l ∧ u ∈ o)) ∧ wr = w3)
      case atStart => exact ⟨0, by omega, by omega, rfl, by simp, rfl⟩
      case round =>
        obtain ⟨i, hrm, hi, rfl, hno, rfl⟩ := hrel
        have Hrm := Lib.hid hrm
        have Hno := Lib.hid hno
        clear hrm hno
        by_cases hlt : i < m
        · have hltI : (i : Int) < m := by omega
          obtain ⟨b, o1, u, rfl, _, _, hx, hc⟩ := ii_cell (Hs2.out wr Hb.out) hlt
          have Hx := Lib.hid hx
          clear hx
          have next : ¬ (u ∈ l ∧ u ∈ l ∧ u ∈ o) → ∀ v ∈ s.take (i + 1), ¬ (v ∈ l ∧ v ∈ l ∧ v ∈ o) := by
            intro h v hv
            rw [List.take_add_one, Hx.out] at hv
            simp only [Option.toList_some, List.mem_append, List.mem_singleton] at hv
            rcases hv with hv | rfl
            · exact Hno.out v hv
            · exact h
          have Next := Lib.hid next
          clear next
          have e1 := Hhas.out wr A1 c1 u R1.out
          have e2 := HhasY.out wr A1 c1 u R1.out
          have e3 := Hin.out wr u Hb.out
          by_cases p1 : u ∈ l
          · rw [decide_eq_true p1] at e1
            by_cases p2 : u ∈ l
            · try rw [decide_eq_true p2] at e2
              by_cases p3 : u ∈ o
              · rw [decide_eq_true p3] at e3
                have E1 := Lib.hid e1
                have E2 := Lib.hid e2
                have E3 := Lib.hid e3
                clear e1 e2 e3 p1 p2 p3
                go_wp2_with fail
                refine E1.out.mono ?_
                rintro e w4 ⟨rfl, rfl⟩
                go_wp2_with fail
                refine E2.out.mono ?_
                rintro e w4 ⟨rfl, rfl⟩
                go_wp2_with fail
                refine E3.out.mono ?_
                rintro e w4 ⟨rfl, rfl⟩
                go_wp2_with fail
                refine (sure_any _).mono ?_
                rintro e w15 ⟨rfl, hb2⟩
                go_wp2_with fail
                go_ret
                exact ⟨rfl, Hb.out.trans (hb2.mono Hb.out.size)⟩
              · rw [decide_eq_false p3] at e3
                have Nx := Lib.hid (Next.out fun h => p3 h.2.2)
                have E1 := Lib.hid e1
                have E2 := Lib.hid e2
                have E3 := Lib.hid e3
                clear e1 e2 e3 p1 p2 p3
                go_wp2_with fail
                refine E1.out.mono ?_
                rintro e w4 ⟨rfl, rfl⟩
                go_wp2_with fail
                refine E2.out.mono ?_
                rintro e w4 ⟨rfl, rfl⟩
                go_wp2_with fail
                refine E3.out.mono ?_
                rintro e w4 ⟨rfl, rfl⟩
                go_wp2_with fail
                go_roundg (m - (i + 1))
                case measure => have := Hrm.out; omega
                case rel => exact ⟨i + 1, rfl, by omega, by go_num, Nx.out, rfl⟩
            · exact absurd p1 p2
          · rw [decide_eq_false p1] at e1
            have Nx := Lib.hid (Next.out fun h => p1 h.1)
            have E1 := Lib.hid e1
            clear e1 e2 e3 p1
            go_wp2_with fail
            refine E1.out.mono ?_
            rintro e w4 ⟨rfl, rfl⟩
            go_wp2_with fail
            go_roundg (m - (i + 1))
            case measure => have := Hrm.out; omega
            case rel => exact ⟨i + 1, rfl, by omega, by go_num, Nx.out, rfl⟩
        · obtain rfl : i = m := by omega
          exfalso
          obtain ⟨u, hu, h1, h2, h3⟩ := Hend.out trivial trivial
          have := Hno.out
          rw [List.take_of_length_le (Nat.le_of_eq Hls.out)] at this
          exact this u hu ⟨h1, h2, h3⟩
set_option maxHeartbeats 3200000 in
theorem meet_add (A : Option Addr) (n c : Nat) (l : List Int) (z : Int) (B : Option Addr) (m d : Nat) (s : List Int) (C : Option Addr) (q f : Nat) (o : List Int) (w : World) {ok ok1 ok2 : Nat → Prop} (hr : Rd w ok 1 A n (ii l)) (hs : Rd w ok1 1 B m (ii s)) (ho : Rd w ok2 1 C q (ii o)) (hn : (n : Int) ≤ 300) (hmm : (m : Int) ≤ 300) (hqq : (q : Int) ≤ 300) (hc : cmay l = true) (hz : z ∉ l) (hm : (addOf l z).1 = 0) :
    Calls Try.prog 8 #[.slice A n c, .int .i64 z, .agg #[.slice B m d, .slice C q f]] w (YesPost w) := by
  have hnd : decide (300 < (n : Int)) = false := decide_eq_false (by omega)
  have hmd : decide (300 < (m : Int)) = false := decide_eq_false (by omega)
  have hqd : decide (300 < (q : Int)) = false := decide_eq_false (by omega)
  have hll := ii_len hr
  have hls := ii_len hs
  have hown := fun (W : World) (hb : Below w.heap.size w W) => own_any A n c l W (hr.below hb) (by omega)
  have hchk := fun W A c (h : Rd W T 1 A n (ii l)) => chk_any A n c l W h (by omega)
  have hhas := fun W A c u (h : Rd W T 1 A n (ii l)) => hasM_any A n c l u W h (by omega)
  have hq1 := fun W A c (h : Rd W T 1 A n (ii l)) (hb : Below w.heap.size w W) => quorum_any A n c l B m d s W h (by omega) (hs.below hb) (by omega)
  have hin := fun W u (hb : Below w.heap.size w W) => in_any C q f o u W (ho.below hb) (by omega)
  have hs2 := fun (W : World) (hb : Below w.heap.size w W) => hs.below hb
  rw [hc] at hchk hhas
  simp only [Bool.true_and] at hhas
  have hmod := fun W A c (h : Rd W T 1 A n (ii l)) => add_any A n c l z W h (by omega)
  obtain ⟨t5, hapt⟩ := apt_add hm
  have hL : (ins z l).length ≤ 1000000 := by rw [ins_length]; omega
  rw [t5] at hmod
  generalize ins z l = L at hmod hapt hL t5
  obtain ⟨k, hk1⟩ : ∃ k, L.length = k := ⟨_, rfl⟩
  rw [hk1] at hL
  have hnear := fun W A c B d (h1 : Rd W T 1 A n (ii l)) (h2 : Rd W T 1 B k (ii L)) => near_any A n c l B k d L W h1 (by omega) h2 hL
  rw [hapt.1] at hnear
  have hhasY := fun W A c u (h : Rd W T 1 A k (ii L)) => hasM_any A k c L u W h hL
  rw [hapt.2.1] at hhasY
  simp only [Bool.true_and] at hhasY
  have hq2 := fun W A c (h : Rd W T 1 A k (ii L)) (hb : Below w.heap.size w W) => quorum_any A k c L C q f o W h hL (ho.below hb) (by omega)
  have hend := fun h1 h2 => apt_meet (s := s) (o := o) hc hapt h1 h2
  have hzd : decide (z ∈ l) = false := decide_eq_false hz
  generalize hqa : quor l s = qa at hq1 hend
  generalize hqb : quor L o = qb at hq2 hend
  have Hend := Lib.hid hend
  have Hown := Lib.hid hown
  have Hchk := Lib.hid hchk
  have Hhas := Lib.hid hhas
  have Hq1 := Lib.hid hq1
  have Hin := Lib.hid hin
  have Hs2 := Lib.hid hs2
  have Hnear := Lib.hid hnear
  have HhasY := Lib.hid hhasY
  have Hq2 := Lib.hid hq2
  have Hll := Lib.hid hll
  have Hls := Lib.hid hls
  have Hm := Lib.hid hm
  have Hmod := Lib.hid hmod
  have Hzd := Lib.hid hzd
  have Hk1 := Lib.hid hk1
  clear hown hchk hhas hq1 hin hs2 hnear hhasY hq2 hll hls hm hr hs ho hc hmod hzd hz hend hqa hqb hapt hk1 t5
  have hb := fun k => below_drewN ((Below.refl w.heap.size w).alloc (Nat.le_refl _) (.cells #[.slice B m d, .slice C q f] 41)) k
  go_enter Try.func8, Try.ntmps8
  go_wp2_with fail
  go_quiet (fail)
  go_wp2_with fail
  refine (Hown.out _ (hb _)).mono ?_
  rintro e w1 ⟨A1, c1, rfl, ho1, hb2⟩
  have R1 := Lib.hid (Rd.of_own ho1).any
  replace hb := (hb _).trans (hb2.mono (hb _).size)
  clear ho1 hb2
  go_wp2_with fail
  refine (Hhas.out w1 A1 c1 z R1.out).mono ?_
  rintro e w2 ⟨rfl, rfl⟩
  rw [Hzd.out]
  go_wp2_with fail
  refine (Hmod.out w1 A1 c1 R1.out).mono ?_
  rintro e w3 hp
  obtain ⟨A3, c3, rfl, hq, hb2⟩ := hp.yes Hk1.out
  have R3 := Lib.hid hq
  replace R1 := Lib.hid (R1.out.below hb2)
  replace hb := hb.trans (hb2.mono hb.size)
  clear hp hb2 hq
  go_wp2_with fail
  refine (Hchk.out w3 A1 c1 R1.out).mono ?_
  rintro e w4 ⟨rfl, rfl⟩
  go_wp2_with fail
  refine (Hnear.out w3 A1 c1 A3 c3 R1.out R3.out).mono ?_
  rintro e w4 ⟨rfl, rfl⟩
  go_wp2_with fail
  refine (Hq1.out w3 A1 c1 R1.out hb).mono ?_
  rintro e w4 ⟨rfl, rfl⟩
  cases qa
  · go_wp2_with fail
    refine (sure_any _).mono ?_
    rintro e w15 ⟨rfl, hb2⟩
    go_wp2_with fail
    go_ret
    exact ⟨rfl, hb.trans (hb2.mono hb.size)⟩
  · go_wp2_with fail
    refine (Hq2.out w3 A3 c3 R3.out hb).mono ?_
    rintro e w4 ⟨rfl, rfl⟩
    cases qb
    · go_wp2_with fail
      refine (sure_any _).mono ?_
      rintro e w15 ⟨rfl, hb2⟩
      go_wp2_with fail
      go_ret
      exact ⟨rfl, hb.trans (hb2.mono hb.size)⟩
    · have Hb := Lib.hid hb
      clear hb
      go_wp2_with fail
      go_loopg [15] m (fun r s15 wr => ∃ i : Nat, r = m - i ∧ i ≤ m ∧ s15 = .int .i64 i ∧ (∀ u ∈ s.take i, ¬ (u ∈ l ∧ u ∈ L ∧ u ∈ o)) ∧ wr = w3)
      case atStart => exact ⟨0, by omega, by omega, rfl, by simp, rfl⟩
      case round =>
        obtain ⟨i, hrm, hi, rfl, hno, rfl⟩ := hrel
        have Hrm := Lib.hid hrm
        have Hno := Lib.hid hno
        clear hrm hno
        by_cases hlt : i < m
        · have hltI : (i : Int) < m := by omega
          obtain ⟨b, o1, u, rfl, _, _, hx, hc⟩ := ii_cell (Hs2.out wr Hb.out) hlt
          have Hx := Lib.hid hx
          clear hx
          have next : ¬ (u ∈ l ∧ u ∈ L ∧ u ∈ o) → ∀ v ∈ s.take (i + 1), ¬ (v ∈ l ∧ v ∈ L ∧ v ∈ o) := by
            intro h v hv
            rw [List.take_add_one, Hx.out] at hv
            simp only [Option.toList_some, List.mem_append, List.mem_singleton] at hv
            rcases hv with hv | rfl
            · exact Hno.out v hv
            · exact h
          have Next := Lib.hid next
          clear next
          have e1 := Hhas.out wr A1 c1 u R1.out
          have e2 := HhasY.out wr A3 c3 u R3.out
          have e3 := Hin.out wr u Hb.out
          by_cases p1 : u ∈ l
          · rw [decide_eq_true p1] at e1
            by_cases p2 : u ∈ L
            · try rw [decide_eq_true p2] at e2
              by_cases p3 : u ∈ o
              · rw [decide_eq_true p3] at e3
                have E1 := Lib.hid e1
                have E2 := Lib.hid e2
                have E3 := Lib.hid e3
                clear e1 e2 e3 p1 p2 p3
                go_wp2_with fail
                refine E1.out.mono ?_
                rintro e w4 ⟨rfl, rfl⟩
                go_wp2_with fail
                refine E2.out.mono ?_
                rintro e w4 ⟨rfl, rfl⟩
                go_wp2_with fail
                refine E3.out.mono ?_
                rintro e w4 ⟨rfl, rfl⟩
                go_wp2_with fail
                refine (sure_any _).mono ?_
                rintro e w15 ⟨rfl, hb2⟩
                go_wp2_with fail
                go_ret
                exact ⟨rfl, Hb.out.trans (hb2.mono Hb.out.size)⟩
              · rw [decide_eq_false p3] at e3
                have Nx := Lib.hid (Next.out fun h => p3 h.2.2)
                have E1 := Lib.hid e1
                have E2 := Lib.hid e2
                have E3 := Lib.hid e3
                clear e1 e2 e3 p1 p2 p3
                go_wp2_with fail
                refine E1.out.mono ?_
                rintro e w4 ⟨rfl, rfl⟩
                go_wp2_with fail
                refine E2.out.mono ?_
                rintro e w4 ⟨rfl, rfl⟩
                go_wp2_with fail
                refine E3.out.mono ?_
                rintro e w4 ⟨rfl, rfl⟩
                go_wp2_with fail
                go_roundg (m - (i + 1))
                case measure => have := Hrm.out; omega
                case rel => exact ⟨i + 1, rfl, by omega, by go_num, Nx.out, rfl⟩
            · try rw [decide_eq_false p2] at e2
              have Nx := Lib.hid (Next.out fun h => p2 h.2.1)
              have E1 := Lib.hid e1
              have E2 := Lib.hid e2
              clear e1 e2 e3 p1
              clear p2
              go_wp2_with fail
              refine E1.out.mono ?_
              rintro e w4 ⟨rfl, rfl⟩
              go_wp2_with fail
              refine E2.out.mono ?_
              rintro e w4 ⟨rfl, rfl⟩
              go_wp2_with fail
              go_roundg (m - (i + 1))
              case measure => have := Hrm.out; omega
              case rel => exact ⟨i + 1, rfl, by omega, by go_num, Nx.out, rfl⟩
          · rw [decide_eq_false p1] at e1
            have Nx := Lib.hid (Next.out fun h => p1 h.1)
            have E1 := Lib.hid e1
            clear e1 e2 e3 p1
            go_wp2_with fail
            refine E1.out.mono ?_
            rintro e w4 ⟨rfl, rfl⟩
            go_wp2_with fail
            go_roundg (m - (i + 1))
            case measure => have := Hrm.out; omega
            case rel => exact ⟨i + 1, rfl, by omega, by go_num, Nx.out, rfl⟩
        · obtain rfl : i = m := by omega
          exfalso
          obtain ⟨u, hu, h1, h2, h3⟩ := Hend.out trivial trivial
          have := Hno.out
          rw [List.take_of_length_le (Nat.le_of_eq Hls.out)] at this
          exact this u hu ⟨h1, h2, h3⟩
set_option maxHeartbeats 3200000 in
theorem meet_addno (A : Option Addr) (n c : Nat) (l : List Int) (z : Int) (B : Option Addr) (m d : Nat) (s : List Int) (C : Option Addr) (q f : Nat) (o : List Int) (w : World) {ok ok1 ok2 : Nat → Prop} (hr : Rd w ok 1 A n (ii l)) (hs : Rd w ok1 1 B m (ii s)) (ho : Rd w ok2 1 C q (ii o)) (hn : (n : Int) ≤ 300) (hmm : (m : Int) ≤ 300) (hqq : (q : Int) ≤ 300) (hc : cmay l = true) (hz : z ∉ l) (hm : (addOf l z).1 ≠ 0) :
    Calls Try.prog 8 #[.slice A n c, .int .i64 z, .agg #[.slice B m d, .slice C q f]] w (YesPost w) := by
  have hnd : decide (300 < (n : Int)) = false := decide_eq_false (by omega)
  have hmd : decide (300 < (m : Int)) = false := decide_eq_false (by omega)
  have hqd : decide (300 < (q : Int)) = false := decide_eq_false (by omega)
  have hll := ii_len hr
  have hls := ii_len hs
  have hown := fun (W : World) (hb : Below w.heap.size w W) => own_any A n c l W (hr.below hb) (by omega)
  have hchk := fun W A c (h : Rd W T 1 A n (ii l)) => chk_any A n c l W h (by omega)
  have hhas := fun W A c u (h : Rd W T 1 A n (ii l)) => hasM_any A n c l u W h (by omega)
  have hq1 := fun W A c (h : Rd W T 1 A n (ii l)) (hb : Below w.heap.size w W) => quorum_any A n c l B m d s W h (by omega) (hs.below hb) (by omega)
  have hin := fun W u (hb : Below w.heap.size w W) => in_any C q f o u W (ho.below hb) (by omega)
  have hs2 := fun (W : World) (hb : Below w.heap.size w W) => hs.below hb
  rw [hc] at hchk hhas
  simp only [Bool.true_and] at hhas
  have hmod := fun W A c (h : Rd W T 1 A n (ii l)) => add_any A n c l z W h (by omega)
  have hapt := apt_self hc
  have hL : n ≤ 1000000 := by omega
  have hnear := fun W A c B d (h1 : Rd W T 1 A n (ii l)) (h2 : Rd W T 1 B n (ii l)) => near_any A n c l B n d l W h1 (by omega) h2 hL
  rw [hapt.1] at hnear
  have hhasY := fun W A c u (h : Rd W T 1 A n (ii l)) => hasM_any A n c l u W h hL
  rw [hapt.2.1] at hhasY
  simp only [Bool.true_and] at hhasY
  have hq2 := fun W A c (h : Rd W T 1 A n (ii l)) (hb : Below w.heap.size w W) => quorum_any A n c l C q f o W h hL (ho.below hb) (by omega)
  have hend := fun h1 h2 => apt_meet (s := s) (o := o) hc hapt h1 h2
  have hzd : decide (z ∈ l) = false := decide_eq_false hz
  generalize hqa : quor l s = qa at hq1 hend
  generalize hqb : quor l o = qb at hq2 hend
  have Hend := Lib.hid hend
  have Hown := Lib.hid hown
  have Hchk := Lib.hid hchk
  have Hhas := Lib.hid hhas
  have Hq1 := Lib.hid hq1
  have Hin := Lib.hid hin
  have Hs2 := Lib.hid hs2
  have Hnear := Lib.hid hnear
  have HhasY := Lib.hid hhasY
  have Hq2 := Lib.hid hq2
  have Hll := Lib.hid hll
  have Hls := Lib.hid hls
  have Hm := Lib.hid hm
  have Hmod := Lib.hid hmod
  have Hzd := Lib.hid hzd
  clear hown hchk hhas hq1 hin hs2 hnear hhasY hq2 hll hls hm hr hs ho hc hmod hzd hz hend hqa hqb hapt
  have hb := fun k => below_drewN ((Below.refl w.heap.size w).alloc (Nat.le_refl _) (.cells #[.slice B m d, .slice C q f] 41)) k
  go_enter Try.func8, Try.ntmps8
  go_wp2_with fail
  go_quiet (fail)
  go_wp2_with fail
  refine (Hown.out _ (hb _)).mono ?_
  rintro e w1 ⟨A1, c1, rfl, ho1, hb2⟩
  have R1 := Lib.hid (Rd.of_own ho1).any
  replace hb := (hb _).trans (hb2.mono (hb _).size)
  clear ho1 hb2
  go_wp2_with fail
  refine (Hhas.out w1 A1 c1 z R1.out).mono ?_
  rintro e w2 ⟨rfl, rfl⟩
  rw [Hzd.out]
  go_wp2_with fail
  refine (Hmod.out w1 A1 c1 R1.out).mono ?_
  rintro e w3 hp
  obtain ⟨A3, c3, rfl, hb2⟩ := hp.no Hm.out
  replace R1 := Lib.hid (R1.out.below hb2)
  replace hb := hb.trans (hb2.mono hb.size)
  clear hp hb2
  go_wp2_with fail
  refine (Hchk.out w3 A1 c1 R1.out).mono ?_
  rintro e w4 ⟨rfl, rfl⟩
  go_wp2_with fail
  refine (Hnear.out w3 A1 c1 A1 c1 R1.out R1.out).mono ?_
  rintro e w4 ⟨rfl, rfl⟩
  go_wp2_with fail
  refine (Hq1.out w3 A1 c1 R1.out hb).mono ?_
  rintro e w4 ⟨rfl, rfl⟩
  cases qa
  · go_wp2_with fail
    refine (sure_any _).mono ?_
    rintro e w15 ⟨rfl, hb2⟩
    go_wp2_with fail
    go_ret
    exact ⟨rfl, hb.trans (hb2.mono hb.size)⟩
  · go_wp2_with fail
    refine (Hq2.out w3 A1 c1 R1.out hb).mono ?_
    rintro e w4 ⟨rfl, rfl⟩
    cases qb
    · go_wp2_with fail
      refine (sure_any _).mono ?_
      rintro e w15 ⟨rfl, hb2⟩
      go_wp2_with fail
      go_ret
      exact ⟨rfl, hb.trans (hb2.mono hb.size)⟩
    · have Hb := Lib.hid hb
      clear hb
      go_wp2_with fail
      go_loopg [15] m (fun r s15 wr => ∃ i : Nat, r = m - i ∧ i ≤ m ∧ s15 = .int .i64 i ∧ (∀ u ∈ s.take i, ¬ (u ∈ l ∧ u ∈ l ∧ u ∈ o)) ∧ wr = w3)
      case atStart => exact ⟨0, by omega, by omega, rfl, by simp, rfl⟩
      case round =>
        obtain ⟨i, hrm, hi, rfl, hno, rfl⟩ := hrel
        have Hrm := Lib.hid hrm
        have Hno := Lib.hid hno
        clear hrm hno
        by_cases hlt : i < m
        · have hltI : (i : Int) < m := by omega
          obtain ⟨b, o1, u, rfl, _, _, hx, hc⟩ := ii_cell (Hs2.out wr Hb.out) hlt
          have Hx := Lib.hid hx
          clear hx
          have next : ¬ (u ∈ l ∧ u ∈ l ∧ u ∈ o) → ∀ v ∈ s.take (i + 1), ¬ (v ∈ l ∧ v ∈ l ∧ v ∈ o) := by
            intro h v hv
            rw [List.take_add_one, Hx.out] at hv
            simp only [Option.toList_some, List.mem_append, List.mem_singleton] at hv
            rcases hv with hv | rfl
            · exact Hno.out v hv
            · exact h
          have Next := Lib.hid next
          clear next
          have e1 := Hhas.out wr A1 c1 u R1.out
          have e2 := HhasY.out wr A1 c1 u R1.out
          have e3 := Hin.out wr u Hb.out
          by_cases p1 : u ∈ l
          · rw [decide_eq_true p1] at e1
            by_cases p2 : u ∈ l
            · try rw [decide_eq_true p2] at e2
              by_cases p3 : u ∈ o
              · rw [decide_eq_true p3] at e3
                have E1 := Lib.hid e1
                have E2 := Lib.hid e2
                have E3 := Lib.hid e3
                clear e1 e2 e3 p1 p2 p3
                go_wp2_with fail
                refine E1.out.mono ?_
                rintro e w4 ⟨rfl, rfl⟩
                go_wp2_with fail
                refine E2.out.mono ?_
                rintro e w4 ⟨rfl, rfl⟩
                go_wp2_with fail
                refine E3.out.mono ?_
                rintro e w4 ⟨rfl, rfl⟩
                go_wp2_with fail
                refine (sure_any _).mono ?_
                rintro e w15 ⟨rfl, hb2⟩
                go_wp2_with fail
                go_ret
                exact ⟨rfl, Hb.out.trans (hb2.mono Hb.out.size)⟩
              · rw [decide_eq_false p3] at e3
                have Nx := Lib.hid (Next.out fun h => p3 h.2.2)
                have E1 := Lib.hid e1
                have E2 := Lib.hid e2
                have E3 := Lib.hid e3
                clear e1 e2 e3 p1 p2 p3
                go_wp2_with fail
                refine E1.out.mono ?_
                rintro e w4 ⟨rfl, rfl⟩
                go_wp2_with fail
                refine E2.out.mono ?_
                rintro e w4 ⟨rfl, rfl⟩
                go_wp2_with fail
                refine E3.out.mono ?_
                rintro e w4 ⟨rfl, rfl⟩
                go_wp2_with fail
                go_roundg (m - (i + 1))
                case measure => have := Hrm.out; omega
                case rel => exact ⟨i + 1, rfl, by omega, by go_num, Nx.out, rfl⟩
            · exact absurd p1 p2
          · rw [decide_eq_false p1] at e1
            have Nx := Lib.hid (Next.out fun h => p1 h.1)
            have E1 := Lib.hid e1
            clear e1 e2 e3 p1
            go_wp2_with fail
            refine E1.out.mono ?_
            rintro e w4 ⟨rfl, rfl⟩
            go_wp2_with fail
            go_roundg (m - (i + 1))
            case measure => have := Hrm.out; omega
            case rel => exact ⟨i + 1, rfl, by omega, by go_num, Nx.out, rfl⟩
        · obtain rfl : i = m := by omega
          exfalso
          obtain ⟨u, hu, h1, h2, h3⟩ := Hend.out trivial trivial
          have := Hno.out
          rw [List.take_of_length_le (Nat.le_of_eq Hls.out)] at this
          exact this u hu ⟨h1, h2, h3⟩
theorem meet_walk (A : Option Addr) (n c : Nat) (l : List Int) (z : Int) (B : Option Addr) (m d : Nat) (s : List Int) (C : Option Addr) (q f : Nat) (o : List Int) (w : World) {ok ok1 ok2 : Nat → Prop} (hr : Rd w ok 1 A n (ii l)) (hs : Rd w ok1 1 B m (ii s)) (ho : Rd w ok2 1 C q (ii o)) (hn : (n : Int) ≤ 300) (hmm : (m : Int) ≤ 300) (hqq : (q : Int) ≤ 300) :
    Calls Try.prog 8 #[.slice A n c, .int .i64 z, .agg #[.slice B m d, .slice C q f]] w (YesPost w) := by
  by_cases hc : cmay l = true
  · by_cases hz : z ∈ l
    · by_cases hm : (remOf l z).1 = 0
      · exact meet_rem A n c l z B m d s C q f o w hr hs ho hn hmm hqq hc hz hm
      · exact meet_remno A n c l z B m d s C q f o w hr hs ho hn hmm hqq hc hz hm
    · by_cases hm : (addOf l z).1 = 0
      · exact meet_add A n c l z B m d s C q f o w hr hs ho hn hmm hqq hc hz hm
      · exact meet_addno A n c l z B m d s C q f o w hr hs ho hn hmm hqq hc hz hm
  · exact meet_bad A n c l z B m d s C q f o w hr hs ho hn hmm hqq (by simpa using hc)
end Go.Proofs.Ytedcjakgdoiomaa
