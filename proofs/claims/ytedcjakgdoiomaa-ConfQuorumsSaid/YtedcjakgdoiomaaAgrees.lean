/- Walks of tollbarlaw10.ConfAgrees, ConfQuorums. -/
import Derived.Test.YtedcjakgdoiomaaSure
import Derived.Test.YtedcjakgdoiomaaConf5
import Derived.Test.YtedcjakgdoiomaaMarks
import Derived.Test.YtedcjakgdoiomaaConf3
namespace Go.Proofs.Ytedcjakgdoiomaa
open Go.RowKit
set_option maxRecDepth 100000
set_option linter.unusedVariables false
set_option linter.unusedSimpArgs false
theorem agrees_far (A : Option Addr) (n c : Nat) (B : Option Addr) (m d : Nat) (w : World) (h : 300 < (n : Int) ∨ ((n : Int) ≤ 300 ∧ 200 < (m : Int))) :
    Calls Try.prog 3 #[.slice A n c, .slice B m d] w (YesPost w) := by
  rcases h with h | ⟨h0, h⟩
  all_goals
    try have h0d : decide (300 < (n : Int)) = false := decide_eq_false (by omega)
    go_enter Try.func3, Try.ntmps3
    go_wp2_with fail
    refine (sure_any _).mono ?_
    rintro e w1 ⟨rfl, hb1⟩
    go_wp2_with fail
    go_ret
    exact ⟨rfl, hb1⟩
theorem agrees_walk (A : Option Addr) (n c : Nat) (l : List Int) (B : Option Addr) (m d : Nat) (ms : List Mk) (w : World) {ok ok' : Nat → Prop} (hr : Rd w ok 1 A n (ii l)) (hs : Rd w ok' 2 B m (flat mkc ms)) (hn : (n : Int) ≤ 300) (hm : (m : Int) ≤ 200) :
    Calls Try.prog 3 #[.slice A n c, .slice B m d] w (YesPost w) := by
  have hnd : decide (300 < (n : Int)) = false := decide_eq_false (by omega)
  have hmd : decide (200 < (m : Int)) = false := decide_eq_false (by omega)
  have hown := own_any A n c l w hr (by omega)
  have hmk := fun (W : World) (hb : Below w.heap.size w W) => marks_any B m d ms W (hs.below hb) (by omega)
  have hag := fun (W : World) A c B d (h1 : Rd W T 1 A n (ii l)) (h2 : Rd W T 2 B m (flat mkc ms)) => agreed_any A n c l B m d ms W h1 (by omega) h2 (by omega)
  have hagr := fun (W : World) (hb : Below w.heap.size w W) => agreedR_any A n c l B m d ms W (hr.below hb) (by omega) (hs.below hb) (by omega)
  generalize agreed l ms = q at hag hagr
  have hqq : (q == q) = true := by simp
  have Hown := Lib.hid hown
  have Hmk := Lib.hid hmk
  have Hag := Lib.hid hag
  have Hagr := Lib.hid hagr
  clear hr hs hown hmk hag hagr
  go_enter Try.func3, Try.ntmps3
  go_wp2_with fail
  refine Hown.out.mono ?_
  rintro e w1 ⟨A1, c1, rfl, ho1, hb⟩
  have R1 := Lib.hid (Rd.of_own ho1).any
  clear ho1
  go_wp2_with fail
  refine (Hmk.out w1 hb).mono ?_
  rintro e w2 ⟨A2, c2, rfl, ho2, hb2⟩
  have R2 := Lib.hid ho2.any
  replace R1 := Lib.hid (R1.out.below hb2)
  replace hb := hb.trans (hb2.mono hb.size)
  clear ho2 hb2
  go_wp2_with fail
  refine (Hag.out w2 A1 c1 A2 c2 R1.out R2.out).mono ?_
  rintro e w3 ⟨rfl, hb2⟩
  replace hb := hb.trans (hb2.mono hb.size)
  clear R1 R2 hb2
  go_wp2_with fail
  refine (Hagr.out w3 hb).mono ?_
  rintro e w4 ⟨rfl, hb2⟩
  replace hb := hb.trans (hb2.mono hb.size)
  clear hb2
  go_wp2_with fail
  refine (sure_any _).mono ?_
  rintro e w6 ⟨rfl, hb2⟩
  go_wp2_with fail
  go_ret
  exact ⟨rfl, hb.trans (hb2.mono hb.size)⟩
theorem quorums_far (A : Option Addr) (n c : Nat) (B : Option Addr) (m d : Nat) (C : Option Addr) (k f : Nat) (w : World) (h : 300 < (n : Int) ∨ ((n : Int) ≤ 300 ∧ 300 < (m : Int)) ∨ ((n : Int) ≤ 300 ∧ (m : Int) ≤ 300 ∧ 300 < (k : Int))) :
    Calls Try.prog 6 #[.slice A n c, .slice B m d, .slice C k f] w (YesPost w) := by
  rcases h with h | ⟨h0, h⟩ | ⟨h0, h1, h⟩
  all_goals
    try have h0d : decide (300 < (n : Int)) = false := decide_eq_false (by omega)
    try have h1d : decide (300 < (m : Int)) = false := decide_eq_false (by omega)
    go_enter Try.func6, Try.ntmps6
    go_wp2_with fail
    refine (sure_any _).mono ?_
    rintro e w1 ⟨rfl, hb1⟩
    go_wp2_with fail
    go_ret
    exact ⟨rfl, hb1⟩
set_option maxHeartbeats 800000 in
theorem quorums_walk (A : Option Addr) (n c : Nat) (l : List Int) (B : Option Addr) (m d : Nat) (s : List Int) (C : Option Addr) (k f : Nat) (ms : List Mk) (w : World) {ok ok' ok'' : Nat → Prop} (hr : Rd w ok 1 A n (ii l)) (hs : Rd w ok' 1 B m (ii s)) (hk : Rd w ok'' 2 C k (flat mkc ms)) (hn : (n : Int) ≤ 300) (hm : (m : Int) ≤ 300) (hkk : (k : Int) ≤ 300) :
    Calls Try.prog 6 #[.slice A n c, .slice B m d, .slice C k f] w (YesPost w) := by
  have hnd : decide (300 < (n : Int)) = false := decide_eq_false (by omega)
  have hmd : decide (300 < (m : Int)) = false := decide_eq_false (by omega)
  have hkd : decide (300 < (k : Int)) = false := decide_eq_false (by omega)
  have hown1 := fun (W : World) (hb : Below w.heap.size w W) => own_any A n c l W (hr.below hb) (by omega)
  have hown2 := fun (W : World) (hb : Below w.heap.size w W) => own_any B m d s W (hs.below hb) (by omega)
  have hmk := fun (W : World) (hb : Below w.heap.size w W) => marks_any C k f ms W (hk.below hb) (by omega)
  have hqu := fun (W : World) A c B d (h1 : Rd W T 1 A n (ii l)) (h2 : Rd W T 1 B m (ii s)) => quorum_any A n c l B m d s W h1 (by omega) h2 (by omega)
  have hqr := fun (W : World) (hb : Below w.heap.size w W) => quorumR_any A n c l B m d s W (hr.below hb) (by omega) (hs.below hb) (by omega)
  have hne := fun (W : World) A c B d (h1 : Rd W T 1 A n (ii l)) (h2 : Rd W T 1 B m (ii s)) => near_any A n c l B m d s W h1 (by omega) h2 (by omega)
  have hnr := fun (W : World) (hb : Below w.heap.size w W) => nearR_any A n c l B m d s W (hr.below hb) (by omega) (hs.below hb) (by omega)
  have hag := fun (W : World) A c B d (h1 : Rd W T 1 A n (ii l)) (h2 : Rd W T 2 B k (flat mkc ms)) => agreed_any A n c l B k d ms W h1 (by omega) h2 (by omega)
  have hagr := fun (W : World) (hb : Below w.heap.size w W) => agreedR_any A n c l C k f ms W (hr.below hb) (by omega) (hk.below hb) (by omega)
  generalize agreed l ms = q at hag hagr
  generalize quor l s = q1 at hqu hqr
  generalize near l s = q2 at hne hnr
  have hqq : (q == q) = true := by simp
  have hq1 : (q1 == q1) = true := by simp
  have hq2 : (q2 == q2) = true := by simp
  have H1 := Lib.hid hown1
  have H2 := Lib.hid hown2
  have Hmk := Lib.hid hmk
  have Hqu := Lib.hid hqu
  have Hqr := Lib.hid hqr
  have Hne := Lib.hid hne
  have Hnr := Lib.hid hnr
  have Hag := Lib.hid hag
  have Hagr := Lib.hid hagr
  clear hr hs hk hown1 hown2 hmk hqu hqr hne hnr hag hagr
  go_enter Try.func6, Try.ntmps6
  go_wp2_with fail
  refine (H1.out w (Below.refl _ _)).mono ?_
  rintro e w1 ⟨A1, c1, rfl, ho1, hb⟩
  have R1 := Lib.hid (Rd.of_own ho1).any
  clear ho1
  go_wp2_with fail
  refine (H2.out w1 hb).mono ?_
  rintro e w2 ⟨A2, c2, rfl, ho2, hb2⟩
  have R2 := Lib.hid (Rd.of_own ho2).any
  replace R1 := Lib.hid (R1.out.below hb2)
  replace hb := hb.trans (hb2.mono hb.size)
  clear ho2 hb2
  go_wp2_with fail
  refine (Hqu.out w2 A1 c1 A2 c2 R1.out R2.out).mono ?_
  rintro e w3 ⟨rfl, rfl⟩
  go_wp2_with fail
  refine (Hqr.out w2 hb).mono ?_
  rintro e w3 ⟨rfl, hb2⟩
  replace hb := hb.trans (hb2.mono hb.size)
  clear R1 R2 hb2
  go_wp2_with fail
  refine (H1.out w3 hb).mono ?_
  rintro e w4 ⟨A1, c1, rfl, ho1, hb2⟩
  have R1 := Lib.hid (Rd.of_own ho1).any
  replace hb := hb.trans (hb2.mono hb.size)
  clear ho1 hb2
  go_wp2_with fail
  refine (H2.out w4 hb).mono ?_
  rintro e w5 ⟨A2, c2, rfl, ho2, hb2⟩
  have R2 := Lib.hid (Rd.of_own ho2).any
  replace R1 := Lib.hid (R1.out.below hb2)
  replace hb := hb.trans (hb2.mono hb.size)
  clear ho2 hb2
  go_wp2_with fail
  refine (Hne.out w5 A1 c1 A2 c2 R1.out R2.out).mono ?_
  rintro e w3 ⟨rfl, rfl⟩
  go_wp2_with fail
  refine (Hnr.out w5 hb).mono ?_
  rintro e w6 ⟨rfl, hb2⟩
  replace hb := hb.trans (hb2.mono hb.size)
  clear R1 R2 hb2
  go_wp2_with fail
  refine (H1.out w6 hb).mono ?_
  rintro e w7 ⟨A1, c1, rfl, ho1, hb2⟩
  have R1 := Lib.hid (Rd.of_own ho1).any
  replace hb := hb.trans (hb2.mono hb.size)
  clear ho1 hb2
  go_wp2_with fail
  refine (Hmk.out w7 hb).mono ?_
  rintro e w8 ⟨A2, c2, rfl, ho2, hb2⟩
  have R2 := Lib.hid ho2.any
  replace R1 := Lib.hid (R1.out.below hb2)
  replace hb := hb.trans (hb2.mono hb.size)
  clear ho2 hb2
  go_wp2_with fail
  refine (Hag.out w8 A1 c1 A2 c2 R1.out R2.out).mono ?_
  rintro e w9 ⟨rfl, hb2⟩
  replace hb := hb.trans (hb2.mono hb.size)
  clear R1 R2 hb2
  go_wp2_with fail
  refine (Hagr.out w9 hb).mono ?_
  rintro e w10 ⟨rfl, hb2⟩
  replace hb := hb.trans (hb2.mono hb.size)
  clear hb2
  go_wp2_with fail
  refine (sure_any _).mono ?_
  rintro e w11 ⟨rfl, hb2⟩
  go_wp2_with fail
  go_ret
  exact ⟨rfl, hb.trans (hb2.mono hb.size)⟩
end Go.Proofs.Ytedcjakgdoiomaa
