/- Walk of tollbarlaw12.ChunkWhole. -/
import Derived.Test.YtcdneioaifmilaaPuts
import Derived.Test.YtcdneioaifmilaaOpen
import Derived.Test.YtcdneioaifmilaaArith
import Derived.Deep.LoopGhost
import Derived.Deep.DeepCutAuto
namespace Go.Proofs.Ytcdneioaifmilaa
open Go.RowKit
set_option linter.unusedVariables false
set_option linter.unusedSimpArgs false
theorem putR_no (k : Int) (h : List UInt8) (a : Int) (p : List UInt8) (last : Bool) (h0 : a ≠ 0) (h1 : a ≠ h.length) : putR k h k a p last = (k, h, [], (h.length : Int), false) := by
  have e : putHave k h k a = h := by simp [putHave, h0]
  unfold putR
  rw [e, if_pos (.inl h1)]
  simp
theorem putR_yes (k : Int) (h : List UInt8) (a : Int) (p : List UInt8) (last : Bool) (h1 : a = h.length) (h2 : h.length + p.length ≤ 1048576) : putR k h k a p last = (k, cond last [] (h ++ p), cond last (h ++ p) [], ((h ++ p).length : Int), last) := by
  have e : putHave k h k a = h := by
    unfold putHave
    split
    · rename_i h3
      rcases h3 with h3 | h3
      · exact absurd rfl h3
      · exact (List.eq_nil_of_length_eq_zero (by omega)).symm
    · rfl
  unfold putR
  rw [e, if_neg (by omega)]
  cases last <;> simp
/-- The box holds the text up to off. -/
def WInv (w wr : World) (t : List UInt8) (off : Nat) : Prop := ∃ A1 n1 c1, Bx wr w.heap.size #[.int .i64 7, .slice A1 n1 c1] ∧ Rd wr (fun b => b ≠ w.heap.size) 1 A1 n1 (bs (t.take off)) ∧ Below w.heap.size w wr
def IntAt (w : World) (C : Option Addr) (i : Nat) : Prop := ∃ (b o : Nat) (z : Int), C = some ⟨b, o, none⟩ ∧ w.cell? ⟨b, o + i, none⟩ = some (.int .i64 z)
set_option maxRecDepth 100000 in
set_option maxHeartbeats 800000 in
theorem whole_long (A : Option Addr) (n c : Nat) (size : Int) (C : Option Addr) (m d : Nat) (w : World) (hs : I64 size) (hl : 1000 < (n : Int)) :
   Calls Try.prog 4 #[.slice A n c, .int .i64 size, .slice C m d] w (YesPost w) := by
  unfold I64 at hs
  go_enter Try.func4, Try.ntmps4
  go_wp2_with fail
  refine (sure_any _).mono ?_
  rintro e w4 ⟨rfl, hb4⟩
  go_wp2_with fail
  go_ret
  exact ⟨rfl, hb4⟩
set_option maxRecDepth 100000 in
set_option maxHeartbeats 1600000 in
theorem whole_walk (A : Option Addr) (n c : Nat) (t : List UInt8) (size : Int) (C : Option Addr) (m d : Nat) (w : World) (hr : Rd w T 1 A n (bs t)) (hnc : n ≤ c) (hl : (n : Int) ≤ 1000) (hs : I64 size)
    (hm : m ≤ 9223372036854775807) (hbt : ∀ i, i < m → IntAt w C i) :
   Calls Try.prog 4 #[.slice A n c, .int .i64 size, .slice C m d] w (YesPost w) := by
  unfold I64 at hs
  obtain ⟨K, hK1, hK2, -, e⟩ := one_uint_mod size 9 9 rfl (by omega) (by omega)
  have h0 : WInv w (w.alloc (.cells #[.int .i64 7, .slice none 0 0] 25)) t 0 := ⟨none, 0, 0, Bx.new _ _ _ rfl, by simpa [bs_nil] using Rd.none_, (Below.refl _ _).alloc (Nat.le_refl _) _⟩
  go_enter Try.func4, Try.ntmps4
  go_wp2_with fail
  simp only [e]
  clear e
  go_loopg [9, 10] (n + 1) (fun k s9 s10 wr => ∃ i off : Nat, k = n + 1 - i ∧ s10 = .int .i64 i ∧ s9 = .int .i64 off ∧ off = i * K ∧ (off < n ∨ i = 0) ∧ WInv w wr t off)
  case atStart => exact ⟨0, 0, by omega, rfl, rfl, by simp, .inr rfl, h0⟩
  case round =>
    obtain ⟨i, off, hk, rfl, rfl, hoff, hlt, hinv⟩ := hrel
    have Hoff := Lib.hid hoff
    have Hk := Lib.hid hk
    have hin : i ≤ n := by
      rcases hlt with h | h
      · have : i ≤ i * K := Nat.le_mul_of_pos_right i (by omega)
        omega
      · omega
    have hoffn : off ≤ n := by
      rcases hlt with h | h
      · omega
      · rw [hoff, h]; omega
    clear h0 hk hoff
    have hbi : i < m → IntAt w C i := hbt i
    clear hbt
    have Hbi := Lib.hid hbi
    clear hbi
    go_upto_if 45 with (fail)
    go_cut [6, 11, 12, 13, 14, 15, 16, 17, 18] (fun s6 s11 s12 s13 s14 s15 s16 s17 s18 W => WInv w W t off)
    case first =>
      by_cases him : i < m
      · obtain ⟨b, o, z, rfl, hz⟩ := Hbi.out him
        obtain ⟨A1, n1, c1, X1, r1, hb⟩ := hinv
        have hz' := (hb.cell (p := ⟨b, o + i, none⟩) (World.block_lt_of_cell? w _ hz)).trans hz
        obtain ⟨a, ha1, -, -, ha2⟩ := uint_mod z (n + 1) ((n : Int) + 1) (by omega) (by omega) (by omega)
        by_cases hc : 0 < a ∧ a < n ∧ a ≠ off
        · obtain ⟨hc1, hc2, hc3⟩ := hc
          go_wp2_with fail
          refine (cut_at A n c t a K _ _ wr (hr.below (hb.mono (Nat.le_refl _))) hnc (by omega) (by omega) (by omega) (.inr hc2) rfl rfl).mono ?_
          rintro e' w1 ⟨A2, n2, k2, rfl, r2, h2, hb1⟩
          obtain ⟨p, hp⟩ : ∃ p, p = (t.drop a).take K := ⟨_, rfl⟩
          rw [← hp] at r2
          have l1 := r1.blen
          have l2 := r2.blen
          have hl1 : (t.take off).length = off := by rw [List.length_take, hr.blen]; omega
          have e1 := putR_no 7 (t.take off) a p (decide (n ≤ a + K)) (by omega) (by omega)
          rw [hl1] at e1
          have n1o : n1 = off := by omega
          subst n1o
          have E1 := Lib.hid e1
          have hp2 : n2 ≤ 1048576 := by rw [← l2]; rw [hp]; simp [List.length_take]; omega
          clear l1 l2 e1 hl1 hp
          generalize decide (n ≤ a + K) = lst at E1 ⊢
          replace X1 := X1.below hb1
          replace r1 := r1.below hb1
          replace hb := hb.trans (hb1.mono hb.size)
          have j1 := X1.c
          have q1 := X1.lt
          have z1 := hb.size
          clear hb1
          go_wp2_with fail
          refine (put_any 7 7 a A1 n1 c1 (t.take n1) A2 n2 k2 p lst _ r1.any r2 (by omega) hp2).mono ?_
          rintro e' w2 ⟨A3, k3, B3, d3, n3, m3, rfl, r3, t3, hb2⟩
          rw [E1.out] at r3 t3 ⊢
          clear j1
          replace X1 := X1.below hb2
          replace r1 := r1.below hb2
          replace hb := hb.trans (hb2.mono hb.size)
          have j1 := X1.c
          have q1 := X1.lt
          have z1 := hb.size
          have e2 := fun o c => cv (r1.alloc o) c
          have e3 := fun o c => cv (r3.alloc o) c
          go_wp2_with fail
          go_meet
          case rel => exact ⟨A1, n1, c1, X1.alloc _, r1.alloc _, hb.alloc z1 _⟩
        · obtain ⟨A1, n1, c1, X1, r1, hb⟩ : WInv w wr t off := ⟨A1, n1, c1, X1, r1, hb⟩
          have h3 : decide (0 < (a : Int)) = false ∨ 0 < (a : Int) ∧ decide (a < n) = false ∨ 0 < (a : Int) ∧ a < n ∧ a = off := by
            by_cases h4 : 0 < a
            · by_cases h5 : a < n
              · exact .inr (.inr ⟨by omega, h5, by omega⟩)
              · exact .inr (.inl ⟨by omega, by simp; omega⟩)
            · exact .inl (by simp; omega)
          rcases h3 with h3 | ⟨h3, h4⟩ | ⟨h3, h4, rfl⟩
          all_goals
            go_wp2_with fail
            all_goals
              go_meet
              case rel => exact ⟨A1, n1, c1, X1, r1, hb⟩
      · go_wp2_with fail
        go_meet
        case rel => exact hinv
    case rest =>
      have hinv := hcut
      clear hcut
      obtain ⟨A1, n1, c1, X1, r1, hb⟩ := hinv
      have hr1 := hr.below (hb.mono (Nat.le_refl _))
      have hcut : (off = n ∧ off = 0) ∨ off < n := by
        rcases hlt with h | h
        · exact .inr h
        · have h2 : off = 0 := by rw [Hoff.out, h]; omega
          by_cases h3 : n = 0
          · exact .inl ⟨by omega, h2⟩
          · exact .inr (by omega)
      have hl1 : (t.take off).length = off := by rw [List.length_take, hr.blen]; omega
      have l1 := r1.blen
      obtain rfl : n1 = off := by omega
      have hlp : ((t.drop n1).take K).length ≤ K := by rw [List.length_take]; omega
      have e1 := putR_yes 7 (t.take n1) n1 ((t.drop n1).take K) (decide (n ≤ n1 + K)) (by omega) (by omega)
      have e2 : t.take n1 ++ (t.drop n1).take K = t.take (n1 + K) := by rw [List.take_add]
      rw [e2] at e1
      have E1 := Lib.hid e1
      have Hl := Lib.hid hl1
      clear e1 e2 l1 hl1 hlt
      go_wp2_with fail
      refine (cut_at A n c t n1 K _ _ _ hr1 hnc (by omega) (by omega) (by omega) hcut rfl rfl).mono ?_
      rintro e' w1 ⟨A2, n2, k2, rfl, r2, h2, hb1⟩
      have hn2 : n2 ≤ K := by have := r2.blen; omega
      replace X1 := X1.below hb1
      replace r1 := r1.below hb1
      replace hr1 := hr1.below hb1
      replace hb := hb.trans (hb1.mono hb.size)
      have j1 := X1.c
      have q1 := X1.lt
      clear hb1 hcut
      go_wp2_with fail
      refine (put_any 7 7 n1 A1 n1 c1 (t.take n1) A2 n2 k2 ((t.drop n1).take K) (decide (n ≤ n1 + K)) _ r1.any r2 (by omega) (by omega)).mono ?_
      rintro e' w2 ⟨A3, k3, B3, d3, n3, m3, rfl, r3, t3, hb2⟩
      rw [E1.out] at r3 t3 ⊢
      clear E1 j1
      replace X1 := X1.below hb2
      replace hr1 := hr1.below hb2
      replace hb := hb.trans (hb2.mono hb.size)
      have j1 := X1.c
      have f1 := X1.f
      have q1 := X1.lt
      have z1 := hb.size
      clear hb2
      by_cases hfin : n ≤ n1 + K
      · have e3 : decide (n ≤ n1 + K) = true := by simpa using hfin
        have e4 : t.take (n1 + K) = t := List.take_of_length_le (by rw [hr.blen]; omega)
        rw [e3, e4] at r3 t3 ⊢
        simp only [cond_true] at r3 t3 ⊢
        have e5 := fun o c => cv (t3.alloc o) c
        have e6 := fun o c => cv (hr1.alloc o) c
        have e7 : (t.length : Int) = n := by rw [hr.blen]
        have E7 := Lib.hid e7
        rw [e7]
        clear e3 e4 e7
        go_wp2_with fail
        refine (sure_any _).mono ?_
        rintro e w4 ⟨rfl, hb4⟩
        go_wp2_with fail
        go_ret
        exact ⟨rfl, (hb.alloc z1 _).trans (hb4.mono (by simp; omega))⟩
      · have e3 : decide (n ≤ n1 + K) = false := by simpa using hfin
        have e4 : ((t.take (n1 + K)).length : Int) = ((n1 + K : Nat) : Int) := by rw [List.length_take, hr.blen]; omega
        simp only [e3, cond_false] at r3 t3 ⊢
        rw [e4]
        have l3 := r3.blen
        clear e3 e4
        go_wp2_with fail
        go_roundg (n + 1 - (i + 1))
        case measure => have := Hk.out; omega
        case rel =>
          refine ⟨i + 1, n1 + K, rfl, by go_num, by go_num, by rw [Hoff.out, Nat.add_mul, Nat.one_mul], .inl (by omega), A3, n3, k3, ?_⟩
          have hcs : ∀ (x : Option Addr) (y z : Nat) (i : Nat) (q : Int), (#[Value.int .i64 7, Value.slice x y z] : Array Value)[i]? ≠ some (.int .u8 q) := by
            intro x y z i q
            rcases i with _ | _ | i <;> simp
          have s3 := (r3.off_box X1 (hcs _ _ _)).mono (ok' := fun b => b ≠ w.heap.size) (fun b hb => hb.2)
          exact ⟨((X1.set 0 _).set 1 _).alloc _, ((s3.setCell (p := ⟨w.heap.size, 0, none⟩) (fun h => h rfl) _).setCell (p := ⟨w.heap.size, 1, none⟩) (fun h => h rfl) _).alloc _, ((hb.setCell (Nat.le_refl _) _).setCell (Nat.le_refl _) _).alloc (by simpa using z1) _⟩
end Go.Proofs.Ytcdneioaifmilaa
