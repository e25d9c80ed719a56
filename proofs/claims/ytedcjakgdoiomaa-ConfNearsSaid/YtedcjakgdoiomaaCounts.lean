/- Walks of tollbarlaw10.ConfCounts, ConfNears. -/
import Derived.Test.YtedcjakgdoiomaaSure
namespace Go.Proofs.Ytedcjakgdoiomaa
open Go.RowKit
set_option linter.unusedVariables false
set_option linter.unusedSimpArgs false
theorem counts_far (A : Option Addr) (n c : Nat) (B : Option Addr) (m d : Nat) (w : World) (h : 300 < (n : Int) ∨ ((n : Int) ≤ 300 ∧ 300 < (m : Int))) :
    Calls Try.prog 4 #[.slice A n c, .slice B m d] w (YesPost w) := by
  rcases h with h | ⟨h0, h⟩
  all_goals
    try have h0d : decide (300 < (n : Int)) = false := decide_eq_false (by omega)
    go_enter Try.func4, Try.ntmps4
    go_wp2_with fail
    refine (sure_any _).mono ?_
    rintro e w1 ⟨rfl, hb1⟩
    go_wp2_with fail
    go_ret
    exact ⟨rfl, hb1⟩
theorem counts_walk (A : Option Addr) (n c : Nat) (l : List Int) (B : Option Addr) (m d : Nat) (s : List Int) (w : World) {ok ok' : Nat → Prop} (hr : Rd w ok 1 A n (ii l)) (hs : Rd w ok' 1 B m (ii s)) (hn : (n : Int) ≤ 300) (hm : (m : Int) ≤ 300) :
    Calls Try.prog 4 #[.slice A n c, .slice B m d] w (YesPost w) := by
  have hnd : decide (300 < (n : Int)) = false := decide_eq_false (by omega)
  have hmd : decide (300 < (m : Int)) = false := decide_eq_false (by omega)
  have Hr := Lib.hid hr
  have Hs := Lib.hid hs
  clear hr hs
  go_enter Try.func4, Try.ntmps4
  go_wp2_with fail
  refine (own_any A n c l w Hr.out (by omega)).mono ?_
  rintro e w1 ⟨A1, c1, rfl, hown1, hb1⟩
  have Hown1 := Lib.hid hown1
  clear hown1
  go_wp2_with fail
  refine (own_any B m d s w1 (Hs.out.below hb1) (by omega)).mono ?_
  rintro e w2 ⟨A2, c2, rfl, hown2, hb2⟩
  have Hown2 := Lib.hid hown2
  clear hown2
  go_wp2_with fail
  refine (quorum_any A1 n c1 l A2 m c2 s w2 ((Rd.of_own Hown1.out).below hb2) (by omega) (Rd.of_own Hown2.out) (by omega)).mono ?_
  rintro e w3 ⟨rfl, rfl⟩
  have hb3 := hb1.trans (hb2.mono hb1.size)
  clear hb1 hb2
  go_wp2_with fail
  refine (quorumR_any A n c l B m d s w2 (Hr.out.below hb3) (by omega) (Hs.out.below hb3) (by omega)).mono ?_
  rintro e w4 ⟨rfl, hb4⟩
  replace hb4 := hb3.trans (hb4.mono hb3.size)
  clear hb3
  generalize quor l s = q
  have hqq : (q == q) = true := by simp
  go_wp2_with fail
  refine (sure_any _).mono ?_
  rintro e w5 ⟨rfl, hb5⟩
  go_wp2_with fail
  go_ret
  exact ⟨rfl, hb4.trans (hb5.mono hb4.size)⟩
theorem nears_far (A : Option Addr) (n c : Nat) (B : Option Addr) (m d : Nat) (w : World) (h : 300 < (n : Int) ∨ ((n : Int) ≤ 300 ∧ 300 < (m : Int))) :
    Calls Try.prog 7 #[.slice A n c, .slice B m d] w (YesPost w) := by
  rcases h with h | ⟨h0, h⟩
  all_goals
    try have h0d : decide (300 < (n : Int)) = false := decide_eq_false (by omega)
    go_enter Try.func7, Try.ntmps7
    go_wp2_with fail
    refine (sure_any _).mono ?_
    rintro e w1 ⟨rfl, hb1⟩
    go_wp2_with fail
    go_ret
    exact ⟨rfl, hb1⟩
set_option maxHeartbeats 800000 in
theorem nears_walk (A : Option Addr) (n c : Nat) (l : List Int) (B : Option Addr) (m d : Nat) (s : List Int) (w : World) {ok ok' : Nat → Prop} (hr : Rd w ok 1 A n (ii l)) (hs : Rd w ok' 1 B m (ii s)) (hn : (n : Int) ≤ 300) (hm : (m : Int) ≤ 300) :
    Calls Try.prog 7 #[.slice A n c, .slice B m d] w (YesPost w) := by
  have hnd : decide (300 < (n : Int)) = false := decide_eq_false (by omega)
  have hmd : decide (300 < (m : Int)) = false := decide_eq_false (by omega)
  have hsym : near s l = near l s := by
    unfold near
    rw [Bool.and_comm (cmay s), Nat.add_comm]
  have hown1 := fun (W : World) (hb : Below w.heap.size w W) => own_any A n c l W (hr.below hb) (by omega)
  have hown2 := fun (W : World) (hb : Below w.heap.size w W) => own_any B m d s W (hs.below hb) (by omega)
  have hnr := fun (W : World) (hb : Below w.heap.size w W) => nearR_any A n c l B m d s W (hr.below hb) (by omega) (hs.below hb) (by omega)
  have hn1 := fun (W : World) A c B d (h1 : Rd W T 1 A n (ii l)) (h2 : Rd W T 1 B m (ii s)) => near_any A n c l B m d s W h1 (by omega) h2 (by omega)
  have hn2 := fun (W : World) A c B d (h1 : Rd W T 1 A m (ii s)) (h2 : Rd W T 1 B n (ii l)) => near_any A m c s B n d l W h1 (by omega) h2 (by omega)
  simp only [hsym] at hn2
  generalize near l s = q at hnr hn1 hn2
  have hqq : (q == q) = true := by simp
  have H1 := Lib.hid hown1
  have H2 := Lib.hid hown2
  have Hnr := Lib.hid hnr
  have Hn1 := Lib.hid hn1
  have Hn2 := Lib.hid hn2
  clear hr hs hown1 hown2 hnr hn1 hn2 hsym
  go_enter Try.func7, Try.ntmps7
  go_wp2_with fail
  refine (H1.out w (Below.refl _ _)).mono ?_
  rintro e w1 ⟨A1, c1, rfl, ho1, hb⟩
  have R1 := Lib.hid (Rd.of_own ho1).any
  clear ho1
  go_wp2_with fail
  refine (H2.out w1 hb).mono ?_
  rintro e w2 ⟨A2, c2, rfl, ho2, hb2⟩
  have R2 := Lib.hid (Rd.of_own ho2).any
  replace R1 := Lib.hid (R1.out.below hb2)
  replace hb := hb.trans (hb2.mono hb.size)
  clear ho2 hb2
  go_wp2_with fail
  refine (Hn1.out w2 A1 c1 A2 c2 R1.out R2.out).mono ?_
  rintro e w3 ⟨rfl, rfl⟩
  go_wp2_with fail
  refine (Hnr.out w2 hb).mono ?_
  rintro e w3 ⟨rfl, hb2⟩
  replace hb := hb.trans (hb2.mono hb.size)
  clear R1 R2 hb2
  go_wp2_with fail
  refine (H2.out w3 hb).mono ?_
  rintro e w4 ⟨A1, c1, rfl, ho1, hb2⟩
  have R1 := Lib.hid (Rd.of_own ho1).any
  replace hb := hb.trans (hb2.mono hb.size)
  clear ho1 hb2
  go_wp2_with fail
  refine (H1.out w4 hb).mono ?_
  rintro e w5 ⟨A2, c2, rfl, ho2, hb2⟩
  have R2 := Lib.hid (Rd.of_own ho2).any
  replace R1 := Lib.hid (R1.out.below hb2)
  replace hb := hb.trans (hb2.mono hb.size)
  clear ho2 hb2
  go_wp2_with fail
  refine (Hn2.out w5 A1 c1 A2 c2 R1.out R2.out).mono ?_
  rintro e w3 ⟨rfl, rfl⟩
  clear R1 R2
  go_wp2_with fail
  refine (H1.out w5 hb).mono ?_
  rintro e w4 ⟨A1, c1, rfl, ho1, hb2⟩
  have R1 := Lib.hid (Rd.of_own ho1).any
  replace hb := hb.trans (hb2.mono hb.size)
  clear ho1 hb2
  go_wp2_with fail
  refine (H2.out w4 hb).mono ?_
  rintro e w5 ⟨A2, c2, rfl, ho2, hb2⟩
  have R2 := Lib.hid (Rd.of_own ho2).any
  replace R1 := Lib.hid (R1.out.below hb2)
  replace hb := hb.trans (hb2.mono hb.size)
  clear ho2 hb2
  go_wp2_with fail
  refine (Hn1.out w5 A1 c1 A2 c2 R1.out R2.out).mono ?_
  rintro e w3 ⟨rfl, rfl⟩
  clear R1 R2
  go_wp2_with fail
  refine (sure_any _).mono ?_
  rintro e w6 ⟨rfl, hb2⟩
  go_wp2_with fail
  go_ret
  exact ⟨rfl, hb.trans (hb2.mono hb.size)⟩
end Go.Proofs.Ytedcjakgdoiomaa
