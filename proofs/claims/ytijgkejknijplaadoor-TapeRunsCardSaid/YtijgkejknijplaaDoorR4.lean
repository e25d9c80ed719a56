/- Walks of the document's Room and Records, and of the law's list. -/
import Derived.Test.YtijgkejknijplaaDoorTpO
import Derived.Test.YtijgkejknijplaaDoorNum
import Derived.BigQuiet
namespace Go.Proofs.YtijgkejknijplaaDoor
open Go.RowKit
set_option maxRecDepth 100000
set_option linter.unusedVariables false
set_option linter.unusedSimpArgs false
def roomL (s p : Nat) : Int := if p + 5 ≤ s then (s : Int) - p - 5 else -1
theorem room4_any (s p : Nat) (hs : s ≤ 4194304) (hp : p ≤ 4194304) (w : World) : Calls Tryd.prog 17 #[.int .i64 s, .int .i64 p] w (fun e w' => e = .returned (.int .i64 (roomL s p)) ∧ w' = w) := by
  unfold roomL
  have s1 : -9223372036854775808 ≤ (s : Int) - p := by omega
  have s2 : (s : Int) - p < 9223372036854775808 := by omega
  by_cases h : p + 5 ≤ s
  · rw [if_pos h]
    have h1 : decide ((s : Int) - p < 5) = false := by simp; omega
    have s3 : -9223372036854775808 ≤ (s : Int) - p - 5 := by omega
    have s4 : (s : Int) - p - 5 < 9223372036854775808 := by omega
    go_enter Tryd.func17, Tryd.ntmps17
    go_wp2_with fail
    go_ret
    exact ⟨rfl, rfl⟩
  · rw [if_neg h]
    have h1 : (s : Int) - p < 5 := by omega
    go_enter Tryd.func17, Tryd.ntmps17
    go_wp2_with fail
    go_ret
    exact ⟨rfl, rfl⟩
/-- Rows of bytes, wherever. -/
def BRT (W : World) (A : Option Addr) (n : Nat) (rows : List Br) : Prop := Rd W T 1 A n (flat brcell rows) ∧ ∀ x ∈ rows, Rd W T 1 x.A x.n (bs x.d)
theorem BRT.below {W W' : World} {A : Option Addr} {n : Nat} {rows : List Br} (h : BRT W A n rows) (hb : Below W.heap.size W W') : BRT W' A n rows := ⟨h.1.below hb, fun x hx => (h.2 x hx).below hb⟩
theorem BRT.len {W : World} {A : Option Addr} {n : Nat} {rows : List Br} (h : BRT W A n rows) : rows.length = n := h.1.flen brcell_len (by omega)
theorem bytes_ne {a b : List UInt8} (h : a ≠ b) : ((⟨a.toArray⟩ : ByteArray).toList == (⟨b.toArray⟩ : ByteArray).toList) = false := by
  rw [ByteArray.toList_eq, ByteArray.toList_eq]
  simpa using h
set_option maxHeartbeats 800000 in
theorem list_q (A1 A2 : Option Addr) (n1 c1 n2 c2 : Nat) (r1 r2 : List Br) (w : World) (h1 : BRT w A1 n1 r1) (h2 : BRT w A2 n2 r2) (hn1 : n1 ≤ 1000000000) (hn2 : n2 ≤ maxLen) :
    Calls Tryd.prog 14 #[.slice A1 n1 c1, .slice A2 n2 c2] w (fun e w' => e = .returned (.bool (decide (r1.map Br.d = r2.map Br.d))) ∧ ∃ j, w' = w.drewN j) := by
  have hl1 := h1.len
  have hl2 := h2.len
  by_cases hn : n1 = n2
  · subst hn
    have H1 := Lib.hid h1
    have H2 := Lib.hid h2
    have L1 := Lib.hid hl1
    have L2 := Lib.hid hl2
    clear h1 h2 hl1 hl2
    go_enter Tryd.func14, Tryd.ntmps14
    go_wp2_with fail
    go_loopg [5] n1 (fun m s5 wr => ∃ i, m = n1 - i ∧ i ≤ n1 ∧ s5 = .int .i64 (i : Nat) ∧ (∃ j, wr = w.drewN j) ∧ (r1.map Br.d).take i = (r2.map Br.d).take i)
    case atStart => exact ⟨0, by omega, by omega, rfl, ⟨0, rfl⟩, by simp⟩
    case round =>
      obtain ⟨i, hm, hi, rfl, ⟨jw, rfl⟩, he⟩ := hrel
      have hb : Below w.heap.size w (w.drewN jw) := ⟨rfl, rfl, rfl, Nat.le_refl _, fun _ _ => rfl⟩
      have Hm := Lib.hid hm
      have He := Lib.hid he
      have Hb := Lib.hid hb
      clear hm he hb
      by_cases hin : i < n1
      · obtain ⟨b1, o1, x1, rfl, -, hlt1, hx1, q1⟩ := br_cells H1.out.1 hin
        obtain ⟨b2, o2, x2, rfl, -, hlt2, hx2, q2⟩ := br_cells H2.out.1 hin
        have hinI : (i : Int) < n1 := by omega
        have h0I : (0 : Int) ≤ i := by omega
        have d1 := H1.out.2 x1 (List.mem_of_getElem? hx1)
        have d2 := H2.out.2 x2 (List.mem_of_getElem? hx2)
        have hcv1 := fun k => conv_bytes (P := Tryd.prog) (c := x1.m) 22 9 5 Tryd.underlying22 Tryd.underlying5 Tryd.underlying9 (d1.drewN k)
        have hcv2 := fun k => conv_bytes (P := Tryd.prog) (c := x2.m) 22 9 5 Tryd.underlying22 Tryd.underlying5 Tryd.underlying9 (d2.drewN k)
        have Hx1 := Lib.hid hx1
        have Hx2 := Lib.hid hx2
        clear d1 d2 hx1 hx2 hlt1 hlt2
        by_cases hd : x1.d = x2.d
        · have hdd := hd
          rw [hd] at hcv1
          have Hd := Lib.hid hd
          clear hdd hd
          go_wp2_with fail
          go_quiet (fail)
          go_wp2_with fail
          go_roundg (n1 - (i + 1))
          case measure => have := Hm.out; omega
          case rel =>
            refine ⟨i + 1, rfl, by omega, by go_num, ⟨_, rfl⟩, ?_⟩
            rw [List.take_add_one, List.take_add_one, He.out, List.getElem?_map, List.getElem?_map, Hx1.out, Hx2.out]
            simp [Hd.out]
        · have hne := bytes_ne hd
          have Hd := Lib.hid hd
          obtain ⟨S1, hS1⟩ : ∃ S1 : ByteArray, S1 = ⟨x1.d.toArray⟩ := ⟨_, rfl⟩
          obtain ⟨S2, hS2⟩ : ∃ S2 : ByteArray, S2 = ⟨x2.d.toArray⟩ := ⟨_, rfl⟩
          rw [← hS1] at hcv1
          rw [← hS2] at hcv2
          rw [← hS1, ← hS2] at hne
          clear hS1 hS2 hd
          go_wp2_with fail
          go_quiet (fail)
          go_wp2_with fail
          go_ret
          have hnn : r1.map Br.d ≠ r2.map Br.d := by
            intro e
            have := congrArg (fun l => l[i]?) e
            simp only [List.getElem?_map, Hx1.out, Hx2.out, Option.map_some, Option.some.injEq] at this
            exact Hd.out this
          exact ⟨by simp [hnn], _, World.drewN_drewN ..⟩
      · have hind : decide (i < n1) = false := by simp; omega
        go_wp2_with fail
        go_ret
        have hee : r1.map Br.d = r2.map Br.d := by
          have := He.out
          rw [List.take_of_length_le (by rw [List.length_map, L1.out]; omega), List.take_of_length_le (by rw [List.length_map, L2.out]; omega)] at this
          exact this
        exact ⟨by simp [hee], _, rfl⟩
  · have hnI : ¬ ((n1 : Int) = n2) := by omega
    have hnn : r1.map Br.d ≠ r2.map Br.d := by
      intro e
      have := congrArg List.length e
      rw [List.length_map, List.length_map] at this
      omega
    have Hnn := Lib.hid hnn
    clear hnn h1 h2 hl1 hl2
    go_enter Tryd.func14, Tryd.ntmps14
    go_wp2_with fail
    go_ret
    exact ⟨by simp [Hnn.out], 0, rfl⟩
theorem list_any (A1 A2 : Option Addr) (n1 c1 n2 c2 : Nat) (r1 r2 : List Br) (w : World) (h1 : BRT w A1 n1 r1) (h2 : BRT w A2 n2 r2) (hn1 : n1 ≤ 1000000000) (hn2 : n2 ≤ maxLen) :
    Calls Tryd.prog 14 #[.slice A1 n1 c1, .slice A2 n2 c2] w (fun e w' => e = .returned (.bool (decide (r1.map Br.d = r2.map Br.d))) ∧ Below w.heap.size w w') := by
  refine (list_q A1 A2 n1 c1 n2 c2 r1 r2 w h1 h2 hn1 hn2).mono ?_
  rintro e w' ⟨rfl, j, rfl⟩
  exact ⟨rfl, rfl, rfl, rfl, Nat.le_refl _, fun _ _ => rfl⟩
end Go.Proofs.YtijgkejknijplaaDoor
