/- Walk of the document's Append. -/
import Derived.Test.YtijgkejknijplaaDoorR4
import Derived.Test.YtijgkejknijplaaDoorTpA
namespace Go.Proofs.YtijgkejknijplaaDoor
open Go.RowKit
set_option maxRecDepth 100000
set_option linter.unusedVariables false
set_option linter.unusedSimpArgs false
def outL (p e : Nat) (x : List UInt8) : List UInt8 := enc4 x.length ++ x ++ (if p + 5 + x.length + 5 ≤ e then [0] else [])
theorem Tp.outL (t : Tp) (x : List UInt8) : t.out x = outL t.p t.en x := rfl
theorem outL_len (p e : Nat) (x : List UInt8) : (outL p e x).length = 4 + x.length + (if p + 5 + x.length + 5 ≤ e then 1 else 0) := by
  unfold outL enc4
  split <;> simp <;> omega
def App4Post (W : World) (A : Option Addr) (n c : Nat) (b : List UInt8) (p : Nat) (x : List UInt8) (e : Ending) (w' : World) : Prop := Below W.heap.size W w' ∧
  ((1048576 < x.length ∧ e = .returned (.tuple #[.slice A n c, .int .i64 2])) ∨
  (x.length ≤ 1048576 ∧ roomL n p < x.length ∧ e = .returned (.tuple #[.slice A n c, .int .i64 10])) ∨
  (x.length ≤ 1048576 ∧ (x.length : Int) ≤ roomL n p ∧ ∃ A' c', e = .returned (.tuple #[.slice A' n c', .int .i64 0]) ∧ w'.ownsRow W.heap.size 5 1 (.slice A' n c') n (bs (splice b p (1 :: outL p n x)))))
theorem five_cells (m : Nat) (h : m ≤ 1048576) : [Value.int .u8 1, .int .u8 ((m : Int) / 16777216), .int .u8 ((m : Int) / 65536), .int .u8 ((m : Int) / 256 % 256), .int .u8 ((m : Int) % 256)] = bs (1 :: enc4 m) := by
  rw [show bs (1 :: enc4 m) = .int .u8 1 :: bs (enc4 m) from rfl, ← enc4_cells m h]
set_option maxHeartbeats 3200000 in
theorem append4_any (A : Option Addr) (n c : Nat) (b : List UInt8) (p : Nat) (B : Option Addr) (m d : Nat) (x : List UInt8) (w : World) (hr : Rd w T 1 A n (bs b)) (hnc : n ≤ c) (hcm : c ≤ maxLen) (hn : n ≤ 4194304) (hp : p ≤ n) (hx : Rd w T 1 B m (bs x)) (hm : m ≤ maxLen) :
    Calls Tryd.prog 20 #[.slice A n c, .int .i64 p, .slice B m d] w (App4Post w A n c b p x) := by
  have hbl := hr.blen
  have hxl := hx.blen
  have Hxl := Lib.hid hxl
  unfold maxLen at hm hcm
  have hrm := room4_any n p hn (by omega) w
  by_cases h1 : 1048576 < m
  · have h1I : (1048576 : Int) < m := by omega
    clear hrm hbl hxl
    go_enter Tryd.func20, Tryd.ntmps20
    go_wp2_with fail
    go_ret2
    exact ⟨by first | exact Below.refl _ _ | exact (Below.refl _ _).drew, .inl ⟨by rw [Hxl.out]; exact h1, rfl⟩⟩
  have h1I : decide ((1048576 : Int) < m) = false := by simp; omega
  by_cases h2 : roomL n p < m
  · have H2 := Lib.hid h2
    obtain ⟨R, hR⟩ : ∃ R, R = roomL n p := ⟨_, rfl⟩
    rw [← hR] at hrm h2
    clear hbl hxl hR
    go_enter Tryd.func20, Tryd.ntmps20
    go_wp2_with fail
    refine hrm.mono ?_
    rintro e w1 ⟨rfl, rfl⟩
    go_wp2_with fail
    go_ret2
    exact ⟨by first | exact Below.refl _ _ | exact (Below.refl _ _).drew, .inr (.inl ⟨by rw [Hxl.out]; omega, by rw [Hxl.out]; exact H2.out, rfl⟩)⟩
  have h2' : (m : Int) ≤ roomL n p := by omega
  have hroom : p + 5 + m ≤ n := by unfold roomL at h2'; split at h2' <;> omega
  have H2 := Lib.hid h2'
  obtain ⟨R, hR⟩ : ∃ R, R = roomL n p := ⟨_, rfl⟩
  rw [← hR] at hrm h2
  have h2d : decide (R < (m : Int)) = false := by simp; omega
  have hm20 : m ≤ 1048576 := by omega
  obtain ⟨ad, had⟩ : ∃ ad, ad = (if c = 0 then A else A.map (·.add (0 * 1))) := ⟨_, rfl⟩
  have hs1 : ∀ W : World, (Instr.sliceAt 22 (.slice A n c) none (some (.int .i64 (p : Nat))) none).run Tryd.prog W = .ok (.slice ad p c) W := by
    intro W
    rw [had]
    exact run_slice_hi (P := Tryd.prog) 22 Tryd.underlying22 (size := 1) (by kernel_rfl) A n c W p (by omega)
  have hrd1 : Rd w T 1 ad p (bs (b.take p)) := by
    have := hr.bsub (i := 0) (k := p) (m := c) (by omega) (by omega)
    rw [List.drop_zero] at this
    rw [had, Nat.zero_mul]
    exact this
  obtain ⟨Lq, hLq⟩ : ∃ Lq, Lq = p + 5 + m + (if p + 5 + m + 5 ≤ n then 1 else 0) := ⟨_, rfl⟩
  have hLn : Lq ≤ n := by rw [hLq]; split <;> omega
  obtain ⟨ae, hae⟩ : ∃ ae, ae = (if c = Lq then A else A.map (·.add (Lq * 1))) := ⟨_, rfl⟩
  have hs2 : ∀ W : World, (Instr.sliceAt 22 (.slice A n c) (some (.int .i64 (Lq : Nat))) none none).run Tryd.prog W = .ok (.slice ae (n - Lq) (c - Lq)) W := by
    intro W
    rw [hae]
    exact run_slice_lo (P := Tryd.prog) 22 Tryd.underlying22 (size := 1) (by kernel_rfl) A n c W Lq hLn
  have hrd2 : Rd w T 1 ae (n - Lq) (bs (b.drop Lq)) := by
    have := hr.bsub (i := Lq) (k := n - Lq) (m := c) (by omega) (by omega)
    rw [List.take_of_length_le (by rw [List.length_drop, hbl]; omega)] at this
    rw [hae, Nat.mul_one]
    exact this
  have hfin : b.take p ++ (1 :: enc4 m) ++ x ++ (if p + 5 + m + 5 ≤ n then [0] else []) ++ b.drop Lq = splice b p (1 :: outL p n x) := by
    unfold splice
    have e1 : p + (1 :: outL p n x).length = Lq := by rw [List.length_cons, outL_len, hxl, hLq]; omega
    rw [e1]
    unfold outL
    rw [hxl]
    simp
  have Hfin := Lib.hid hfin
  have HLq := Lib.hid hLq
  have Hrd1 := Lib.hid hrd1
  have Hrd2 := Lib.hid hrd2
  have Hx := Lib.hid hx
  clear hR h2 h2' hbl hxl had hae hrd1 hrd2 hx hr hfin hLq h1
  go_enter Tryd.func20, Tryd.ntmps20
  go_wp2_with fail
  refine hrm.mono ?_
  rintro e w1 ⟨rfl, rfl⟩
  clear hrm
  go_upto_if 52 with (at_builtin; first
    | (refine wpList_append_any _ Tryd.underlying22 u8_elem rfl (by omega) rfl rfl rfl (own_nil _ w1.heap.size 5 1 0 rfl) rfl Hrd1.out (bs_one _) (by omega) (Nat.le_refl _) (Nat.zero_add _) (List.nil_append _) ?_; intro A2 c2 w2 hown2 hg2 hat2; have hb2 : Below w1.heap.size w1 w2 := (Below.refl _ _).grown hg2 (Nat.le_refl _) (by simp); have Hb2 := Lib.hid hb2; have Hown2 := Lib.hid hown2; clear hb2 hown2 hg2 hat2)
    | (refine wpList_append_any _ Tryd.underlying22 u8_elem rfl (by omega) rfl rfl rfl (own_below Hown2.out ((Below.refl _ _).alloc (Nat.le_refl _) _)) rfl (Rd.lit (w := w2) (t := 5) (fr := (0, 0)) rfl) (by rw [five_cells m hm20]; exact bs_one _) (by omega) (Nat.le_trans Hb2.out.size (by simp)) rfl rfl ?_; intro A3 c3 w3 hown3 hg3 hat3; rw [five_cells m hm20] at hown3; have hb3 : Below w1.heap.size w1 w3 := (Hb2.out.alloc Hb2.out.size _).grown hg3 (Nat.le_trans Hb2.out.size (by simp)) (fun g hg => (own_lt Hown2.out g hg).1); have Hb3 := Lib.hid hb3; have Hown3 := Lib.hid hown3; clear hb3 hown3 hg3 hat3)
    | (refine wpList_append_any _ Tryd.underlying22 u8_elem rfl (by omega) rfl rfl rfl Hown3.out rfl (Hx.out.below Hb3.out) (bs_one _) (by omega) Hb3.out.size rfl rfl ?_; intro A4 c4 w4 hown4 hg4 hat4; have hb4 : Below w1.heap.size w1 w4 := Hb3.out.grown hg4 Hb3.out.size (fun g hg => (own_lt Hown3.out g hg).1); have Hb4 := Lib.hid hb4; have Hown4 := Lib.hid hown4; clear hb4 hown4 hg4 hat4))
  go_cut [8] (fun s8 W => ∃ A5 c5, s8 = .slice A5 Lq c5 ∧ W.ownsRow w1.heap.size 5 1 (.slice A5 Lq c5) Lq (bs (b.take p ++ (1 :: enc4 m) ++ x ++ (if p + 5 + m + 5 ≤ n then [0] else []))) ∧ Below w1.heap.size w1 W)
  case first =>
    by_cases h5 : p + 5 + m + 5 ≤ n
    · have h5I : (5 : Int) ≤ (n : Int) - ((p : Int) + 5 + m) := by omega
      have eL : p + 5 + m + 1 = Lq := by rw [HLq.out, if_pos h5]
      have EL := Lib.hid eL
      clear hs1 hs2 eL
      go_wp2_with (at_builtin; go_must (refine wpList_append_any _ Tryd.underlying22 u8_elem rfl (by omega) rfl rfl rfl (own_below Hown4.out ((Below.refl _ _).alloc (Nat.le_refl _) _)) rfl (byte_rd w4 0 0 rfl) (bs_one [0]) (by omega) (Nat.le_trans Hb4.out.size (by simp)) rfl rfl ?_); intro A5 c5 w5 hown5 hg5 hat5)
      go_meet
      case rel =>
        rw [← bs_append, ← bs_append, ← bs_append, EL.out] at hown5
        refine ⟨A5, c5, by rw [EL.out], by rw [if_pos h5]; exact hown5, (Hb4.out.alloc Hb4.out.size _).grown hg5 (Nat.le_trans Hb4.out.size (by simp)) fun g hg => (own_lt Hown4.out g hg).1⟩
    · have h5I : decide ((5 : Int) ≤ (n : Int) - ((p : Int) + 5 + m)) = false := by simp; omega
      have eL : p + 5 + m = Lq := by rw [HLq.out, if_neg h5]; rfl
      have EL := Lib.hid eL
      clear hs1 hs2 eL
      go_wp2_with fail
      go_meet
      case rel =>
        have h7 := Hown4.out
        rw [← bs_append, ← bs_append, EL.out] at h7
        exact ⟨A4, c4, by rw [EL.out], by rw [if_neg h5, List.append_nil]; exact h7, Hb4.out⟩
  case rest =>
    obtain ⟨A5, c5, rfl, hown5, hb5⟩ := hcut
    have eL : Lq + (n - Lq) = n := by omega
    have Hown5 := Lib.hid hown5
    have Hb5 := Lib.hid hb5
    have EL := Lib.hid eL
    clear hown5 hb5 eL
    go_wp2_with (at_builtin; go_must (refine wpList_append_any _ Tryd.underlying22 u8_elem rfl (by omega) rfl rfl rfl Hown5.out rfl (Hrd2.out.below Hb5.out) (bs_one _) (by omega) Hb5.out.size EL.out rfl ?_); intro A6 c6 w6 hown6 hg6 hat6)
    go_ret2
    rw [← bs_append, Hfin.out] at hown6
    exact ⟨Hb5.out.grown hg6 Hb5.out.size fun g hg => (own_lt Hown5.out g hg).1, .inr (.inr ⟨by rw [Hxl.out]; exact hm20, by rw [Hxl.out]; exact H2.out, A6, c6, rfl, hown6⟩)⟩
end Go.Proofs.YtijgkejknijplaaDoor
