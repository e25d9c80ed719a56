/- The document's reader: its digits.
   The document's reader: numbers up to a bound, counts.
   The document's reader: bytes, counts. (Printed by mkrdr4.py.)
   The document's reader: ReadBytes, ReadCount, Done.
   An entry off bytes, plain (cut out of lib's by mk13.py). -/
import Derived.Test.YtmhaahcbmdhinaaGreatDoorK4
import Derived.Lib.Strings
namespace Go.Proofs.YtmhaahcbmdhinaaGreatDoor
open Go.RowKit
set_option maxRecDepth 100000
set_option linter.unusedVariables false
set_option linter.unusedSimpArgs false
def numVR (a : Nat) : Int ⊕ (Nat × Nat) → Value
  | .inl e => .tuple #[.int .u64 0, .int .i64 0, .int .i64 e]
  | .inr (u, k) => .tuple #[.int .u64 (u : Nat), .int .i64 ((a + k + 1 : Nat) : Int), .int .i64 0]
theorem numVR_inl (a : Nat) (e : Int) : numVR a (.inl e) = .tuple #[.int .u64 0, .int .i64 0, .int .i64 e] := rfl
theorem numVR_inr (a u k : Nat) : numVR a (.inr (u, k)) = .tuple #[.int .u64 (u : Nat), .int .i64 ((a + k + 1 : Nat) : Int), .int .i64 0] := rfl
theorem digs_snoc {ds : List UInt8} {c : UInt8} (h : Digs ds) (hc : isDig c = true) : Digs (ds ++ [c]) := by
  intro x hx
  rcases List.mem_append.1 hx with hx | hx
  · exact h x hx
  · obtain rfl := List.mem_singleton.1 hx
    exact hc
theorem dnum_digs {ds : List UInt8} (h : Digs ds) : dnum ds = if ds = [] then .inl 3 else if ds.head? = some 48 ∧ 1 < ds.length then .inl 3 else if decN 0 ds < 18446744073709551616 then .inr (decN 0 ds, ds.length) else .inl 3 := by
  unfold dnum
  rw [parse_digs h]
  by_cases h0 : ds = []
  · rw [if_pos h0, if_pos h0, show Lib.parseUintB 64 [] = _ from if_pos rfl]
  · rw [if_neg h0, if_neg h0]
    by_cases h1 : decN 0 ds < 18446744073709551616
    · rw [if_pos h1, if_pos h1]
    · rw [if_neg h1, if_neg h1]
      rw [ite_self]
theorem gtr_str (t : TypeId) (a b : ByteArray) : binOp .gtr t (.string a) (.string b) = pure (.bool !(Op.bytesLess a.toList b.toList || a.toList == b.toList)) := by simp [binOp, Op.stringOp]
theorem less_lex : ∀ (x y : List UInt8), Op.bytesLess x y = lexLt x y
  | [], [] => rfl
  | _ :: _, [] => rfl
  | [], _ :: _ => rfl
  | a :: x, b :: y => by
    rw [Op.bytesLess, lexLt, less_lex x y]
    by_cases h1 : a.toNat < b.toNat
    · have : a < b := UInt8.lt_iff_toNat_lt.2 h1
      simp [h1, this]
    · have h1' : ¬ a < b := fun h => h1 (UInt8.lt_iff_toNat_lt.1 h)
      by_cases h2 : b.toNat < a.toNat
      · have : a ≠ b := fun h => by rw [h] at h2; omega
        simp [h1, h1', h2, this]
      · have : a = b := UInt8.toNat_inj.1 (by omega)
        simp [h1, h1', h2, this]
theorem lex_tri : ∀ (x y : List UInt8), x.length = y.length → lexLt x y = false → x ≠ y → lexLt y x = true
  | [], [], _, _, h => absurd rfl h
  | [], _ :: _, h, _, _ => by simp at h
  | _ :: _, [], h, _, _ => by simp at h
  | a :: x, b :: y, hl, h, hne => by
    rw [lexLt] at h ⊢
    split at h
    · cases h
    · rename_i h1
      split at h
      · rename_i h2
        rw [if_pos h2]
      · rename_i h2
        rw [if_neg h2, if_neg h1]
        have e : a = b := UInt8.toNat_inj.1 (by omega)
        refine lex_tri x y (by simpa using hl) h (fun h3 => hne (by rw [e, h3]))
def maxU : List UInt8 := [49, 56, 52, 52, 54, 55, 52, 52, 48, 55, 51, 55, 48, 57, 53, 53, 49, 54, 49, 53]
theorem maxU_digs : Digs maxU := by
  intro c hc
  simp only [maxU, List.mem_cons, List.not_mem_nil, or_false] at hc
  rcases hc with rfl | rfl | rfl | rfl | rfl | rfl | rfl | rfl | rfl | rfl | rfl | rfl | rfl | rfl | rfl | rfl | rfl | rfl | rfl | rfl <;> decide
theorem maxU_val : decN 0 maxU = 18446744073709551615 := by simp [decN, maxU]
theorem over_max {ds : List UInt8} (h : Digs ds) (hl : ds.length = 20) : (!(Op.bytesLess ds maxU || ds == maxU)) = decide (18446744073709551615 < decN 0 ds) := by
  rw [less_lex]
  have h1 := lex_dec ds maxU (by rw [hl]; rfl) h maxU_digs
  have h2 := lex_dec maxU ds (by rw [hl]; rfl) maxU_digs h
  rw [maxU_val] at h1 h2
  by_cases he : ds = maxU
  · rw [he, maxU_val]
    simp
  · by_cases hlt : lexLt ds maxU = true
    · have := h1.1 hlt
      rw [hlt, decide_eq_false (by omega)]
      rfl
    · rw [Bool.not_eq_true] at hlt
      have := h2.1 (lex_tri ds maxU (by rw [hl]; rfl) hlt he)
      rw [hlt, decide_eq_true this]
      simpa using he
set_option maxHeartbeats 3200000 in
theorem digitsR_any (A : Option Addr) (n c : Nat) (l : List UInt8) (a : Nat) (sg : UInt8) (w : World) {ok : Nat → Prop} (hr : Rd w ok 1 A n (bs l)) (h1 : n ≤ c) (h2 : c ≤ maxLen) (ha : a ≤ n) :
    Calls Tryz.prog 207 #[.slice A n c, .int .i64 (a : Nat), .int .u8 (sg.toNat : Int)] w (fun e w' => e = .returned (numVR a (dscan sg [] (l.drop a))) ∧ w' = w) := by
  have hl := hr.blen
  have hmc : maxLen = 9223372036854775807 := by decide
  obtain ⟨R, hR⟩ : ∃ R, dscan sg [] (l.drop a) = R := ⟨_, rfl⟩
  rw [hR]
  have Hr := Lib.hid hr
  have Hl := Lib.hid hl
  have HR := Lib.hid hR
  have Hc := Lib.hid (And.intro h1 (And.intro h2 hmc))
  clear hr hl hR h1 h2 hmc
  go_enter Tryz.func207, Tryz.ntmps207
  go_wp2_with fail
  go_loopg [9, 10, 11] (n - a) (fun m s9 s10 s11 wr => ∃ (j i : Nat) (nv : Int), m = n - i ∧ i = a + j ∧ i ≤ n ∧ j ≤ 20 ∧ s9 = .int .u64 nv ∧ s10 = .int .i64 i ∧ Hid (nv = ((decN 0 ((l.drop a).take j) % 18446744073709551616 : Nat) : Int) ∧ Digs ((l.drop a).take j)) ∧ R = dscan sg ((l.drop a).take j) (l.drop i) ∧ wr = w)
  case atStart => exact ⟨0, a, 0, by omega, by omega, by omega, by omega, rfl, rfl, Lib.hid ⟨by simp [decN_nil], fun c hc => by simp at hc⟩, by rw [← HR.out]; simp, rfl⟩
  case round =>
    clear HR
    obtain ⟨j, i, nv, hm, hi, hj, hj2, rfl, rfl, Hn, hR, rfl⟩ := hrel
    have Hm := Lib.hid hm
    have Hi := Lib.hid hi
    have HR := Lib.hid hR
    have hn0 : 0 ≤ nv := by have := Hn.out.1; omega
    have hn1 : nv < 18446744073709551616 := by have := Hn.out.1; omega
    clear hm hi hR
    by_cases hlt : i < n
    · obtain ⟨ad, rfl, _, hc⟩ := Hr.out.byte hlt
      obtain ⟨b, o, sp⟩ := ad
      have hiI : (i : Int) < n := by omega
      have hi0 : (0 : Int) ≤ i := by omega
      have hwi : IntKind.i64.wrap ((i : Int) + 1) = (i : Int) + 1 := by have := Hc.out; rw [IntKind.wrap_i64]; omega
      have hwj : IntKind.i64.wrap ((i : Int) - (a : Int)) = (j : Int) := by have := Hc.out; have := Hi.out; rw [IntKind.wrap_i64]; omega
      have hg : l.getD i 0 = l[i]'(by have := Hl.out; omega) := by rw [List.getD_eq_getElem?_getD, List.getElem?_eq_getElem (by have := Hl.out; omega)]; rfl
      have hdrop : l.drop i = l[i]'(by have := Hl.out; omega) :: l.drop (i + 1) := List.drop_eq_getElem_cons (by have := Hl.out; omega)
      have htk : (l.drop a).take (j + 1) = (l.drop a).take j ++ [l[i]'(by have := Hl.out; omega)] := by
        have := Hi.out
        have := Hl.out
        rw [List.take_add_one, List.getElem?_drop, ← Hi.out, List.getElem?_eq_getElem (by omega)]
        rfl
      have htl : ((l.drop a).take j).length = j := by have := Hi.out; have := Hl.out; simp; omega
      rw [hg] at hc
      have hR2 := HR.out
      rw [hdrop, dscan] at hR2
      have hc256 := (l[i]'(by have := Hl.out; omega)).toNat_lt
      generalize l[i]'(by have := Hl.out; omega) = ch at hc hR2 htk hc256
      by_cases hs : ch = sg
      · subst hs
        rw [if_pos rfl, dnum_digs Hn.out.2, htl] at hR2
        have hq : ((ch.toNat : Int) == (ch.toNat : Int)) = true := by simp
        clear hg hdrop htk
        obtain ⟨ds, hds⟩ : ∃ ds, (l.drop a).take j = ds := ⟨_, rfl⟩
        rw [hds] at hR2 htl Hn
        by_cases hj0 : j = 0
        · subst hj0
          have : ds = [] := List.eq_nil_of_length_eq_zero htl
          rw [if_pos this] at hR2
          have HR3 := Lib.hid hR2
          clear hR2 this hds htl
          go_wp2_with fail
          go_ret3
          rw [HR3.out, numVR_inl]
          exact ⟨rfl, rfl⟩
        have hj0d : ((j : Int) == 0) = false := by simp; omega
        rw [if_neg (fun h => by rw [h] at htl; exact hj0 htl.symm)] at hR2
        obtain ⟨ad2, e2, _, hc2'⟩ := Hr.out.byte (k := a) (by have := Hi.out; omega)
        injection e2 with e2
        subst e2
        have hfirst : ds.head? = some (l.getD a 0) := by
          have := Hl.out
          have := Hi.out
          rw [← hds, List.head?_take, if_neg hj0, List.head?_drop, List.getElem?_eq_getElem (by omega), List.getD_eq_getElem?_getD, List.getElem?_eq_getElem (by omega)]
          rfl
        rw [hfirst] at hR2
        generalize l.getD a 0 = c1 at hc2' hR2 hfirst
        have hc1256 := c1.toNat_lt
        have haI : (a : Int) < n := by have := Hi.out; omega
        have ha0 : (0 : Int) ≤ a := by omega
        by_cases h48 : c1 = 48 ∧ 1 < j
        · obtain ⟨rfl, h1j⟩ := h48
          rw [if_pos ⟨rfl, h1j⟩] at hR2
          have HR3 := Lib.hid hR2
          have e1 : decide ((1 : Int) < (j : Int)) = true := decide_eq_true (by omega)
          replace hc2' : wr.cell? ((⟨b, o, sp⟩ : Addr).add a) = some (.int .u8 48) := hc2'
          clear hR2 hfirst hds htl
          go_wp2_with fail
          go_ret3
          rw [HR3.out, numVR_inl]
          exact ⟨rfl, rfl⟩
        rw [if_neg (fun h => h48 ⟨Option.some.inj h.1, h.2⟩)] at hR2
        have hw1 : IntKind.i64.wrap ((i : Int) + 1) = (i : Int) + 1 := hwi
        by_cases hj20 : j = 20
        · subst hj20
          obtain ⟨hc1, hc2, hc3⟩ := Hc.out
          have hia := Hi.out
          have hsl : ∀ W, (Instr.sliceAt 26 (.slice (some ⟨b, o, sp⟩) n c) (some (.int .i64 (a : Int))) (some (.int .i64 (i : Int))) none).run Tryz.prog W = .ok (.slice (if c = a then some ⟨b, o, sp⟩ else (some ⟨b, o, sp⟩ : Option Addr).map (·.add (a * 1))) (i - a) (c - a)) W := fun W => run_slice_lohi (P := Tryz.prog) 26 Tryz.underlying26 (size := 1) (by kernel_rfl) (some ⟨b, o, sp⟩) n c W a i (by omega) (by omega)
          have hrs := Hr.out.bsub (i := a) (k := 20) (m := c) (by omega) (by omega)
          rw [hds] at hrs
          rw [show i - a = 20 by omega, Nat.mul_one] at hsl
          generalize (if c = a then some ⟨b, o, sp⟩ else (some ⟨b, o, sp⟩ : Option Addr).map (·.add a)) = A5 at hsl hrs
          have hcv := conv_bytes (P := Tryz.prog) (c := c - a) 26 9 5 Tryz.underlying26 Tryz.underlying5 Tryz.underlying9 hrs
          have hcd : ((c1.toNat : Int) == 48) = false := by
            simp only [beq_eq_false_iff_ne, ne_eq]
            intro h
            exact h48 ⟨UInt8.toNat_inj.1 (by show c1.toNat = 48; omega), by omega⟩
          have haI2 : (a : Int) ≤ i := by omega
          have hiC : (i : Int) ≤ c := by omega
          have hcmp : ∀ W, (binOp .gtr 9 (.string ⟨ds.toArray⟩) (.string ⟨#[49, 56, 52, 52, 54, 55, 52, 52, 48, 55, 51, 55, 48, 57, 53, 53, 49, 54, 49, 53]⟩)).run Tryz.prog W = .ok (.bool (decide (18446744073709551615 < decN 0 ds))) W := fun W => by
            rw [gtr_str]
            have e := over_max Hn.out.2 htl
            have e1 : (⟨ds.toArray⟩ : ByteArray).toList = ds := by rw [ByteArray.toList_eq]
            have e2 : (⟨#[49, 56, 52, 52, 54, 55, 52, 52, 48, 55, 51, 55, 48, 57, 53, 53, 49, 54, 49, 53]⟩ : ByteArray).toList = maxU := by rw [ByteArray.toList_eq]; rfl
            rw [e1, e2, e]
            rfl
          have hb256 : 0 ≤ nv := hn0
          by_cases hov : 18446744073709551615 < decN 0 ds
          · rw [if_neg (by omega)] at hR2
            have hd : decide (18446744073709551615 < decN 0 ds) = true := decide_eq_true hov
            simp only [hd] at hcmp
            have HR3 := Lib.hid hR2
            clear hia hrs hR2 hov hd hfirst hds htl h48
            go_wp2_with fail
            go_ret3
            rw [HR3.out, numVR_inl]
            exact ⟨rfl, rfl⟩
          · rw [if_pos (by omega)] at hR2
            have hd : decide (18446744073709551615 < decN 0 ds) = false := decide_eq_false hov
            simp only [hd] at hcmp
            have hnv : nv = (decN 0 ds : Int) := by
              have := Hn.out.1
              omega
            have eV : numVR a R = .tuple #[.int .u64 nv, .int .i64 ((i : Int) + 1), .int .i64 0] := by
              have e2 : ((a + 20 + 1 : Nat) : Int) = (i : Int) + 1 := by omega
              rw [hR2, numVR_inr, e2, hnv]
            have EV := Lib.hid eV
            clear hia hrs hR2 hov hd hfirst hds htl h48 hnv eV
            go_wp2_with fail
            go_ret3
            rw [EV.out]
            exact ⟨rfl, rfl⟩
        · have hj20d : ((j : Int) == 20) = false := by simp; omega
          have hlt64 : decN 0 ds < 18446744073709551616 := by
            have h1 := decN_lt ds Hn.out.2
            rw [htl] at h1
            have h2 : 10 ^ j ≤ 10 ^ 19 := Nat.pow_le_pow_right (by omega) (by omega)
            have h3 : (10 : Nat) ^ 19 = 10000000000000000000 := by decide
            omega
          rw [if_pos hlt64] at hR2
          have hnv : nv = (decN 0 ds : Int) := by
            have := Hn.out.1
            omega
          have eV : numVR a R = .tuple #[.int .u64 nv, .int .i64 ((i : Int) + 1), .int .i64 0] := by
            have := Hi.out
            have e2 : ((a + j + 1 : Nat) : Int) = (i : Int) + 1 := by omega
            rw [hR2, numVR_inr, e2, hnv]
          have EV := Lib.hid eV
          have H48 := Lib.hid h48
          clear hR2 hfirst hds htl hnv eV hlt64 h48
          by_cases h1j : 1 < j
          · have e1 : decide ((1 : Int) < (j : Int)) = true := decide_eq_true (by omega)
            have hcd : ((c1.toNat : Int) == 48) = false := by
              simp only [beq_eq_false_iff_ne, ne_eq]
              intro h
              exact H48.out ⟨UInt8.toNat_inj.1 (by show c1.toNat = 48; omega), h1j⟩
            go_wp2_with fail
            go_ret3
            rw [EV.out]
            exact ⟨rfl, rfl⟩
          · have e1 : decide ((1 : Int) < (j : Int)) = false := decide_eq_false (by omega)
            go_wp2_with fail
            go_ret3
            rw [EV.out]
            exact ⟨rfl, rfl⟩
      · rw [if_neg hs] at hR2
        have hq : ((ch.toNat : Int) == (sg.toNat : Int)) = false := by
          simp only [beq_eq_false_iff_ne, ne_eq]
          intro h
          exact hs (UInt8.toNat_inj.1 (by omega))
        rw [htl] at hR2
        by_cases hd1 : ch.toNat < 48
        · have hd : isDig ch = false := by unfold isDig; simp; omega
          rw [if_pos (.inl hd)] at hR2
          have e1 : decide ((ch.toNat : Int) < 48) = true := decide_eq_true (by omega)
          have HR3 := Lib.hid hR2
          clear hR2 hg hdrop htk hd hs
          go_wp2_with fail
          go_ret3
          rw [HR3.out, numVR_inl]
          exact ⟨rfl, rfl⟩
        have e1 : decide ((ch.toNat : Int) < 48) = false := decide_eq_false (by omega)
        by_cases hd2 : 57 < ch.toNat
        · have hd : isDig ch = false := by unfold isDig; simp; omega
          rw [if_pos (.inl hd)] at hR2
          have e2 : decide (57 < (ch.toNat : Int)) = true := decide_eq_true (by omega)
          have HR3 := Lib.hid hR2
          clear hR2 hg hdrop htk hd hs
          go_wp2_with fail
          go_ret3
          rw [HR3.out, numVR_inl]
          exact ⟨rfl, rfl⟩
        have e2 : decide (57 < (ch.toNat : Int)) = false := decide_eq_false (by omega)
        by_cases hd3 : 20 ≤ j
        · obtain rfl : j = 20 := by omega
          rw [if_pos (.inr (Nat.le_refl _))] at hR2
          have HR3 := Lib.hid hR2
          clear hR2 hg hdrop htk hs
          go_wp2_with fail
          go_ret3
          rw [HR3.out, numVR_inl]
          exact ⟨rfl, rfl⟩
        have hj20d : ((j : Int) == 20) = false := by simp; omega
        have hd : isDig ch = true := by unfold isDig; simp; omega
        rw [if_neg (show ¬ (isDig ch = false ∨ 20 ≤ j) from fun h => h.elim (fun h => by rw [hd] at h; cases h) (fun h => hd3 h)), ← htk] at hR2
        have HR3 := Lib.hid hR2
        have Hn2 : Hid ((IntKind.u64.wrap (IntKind.u64.wrap (10 * nv) + ((ch.toNat : Int) - 48))) = ((decN 0 ((l.drop a).take (j + 1)) % 18446744073709551616 : Nat) : Int) ∧ Digs ((l.drop a).take (j + 1))) := by
          refine Lib.hid ⟨?_, by rw [htk]; exact digs_snoc Hn.out.2 hd⟩
          have := Hn.out.1
          rw [htk, decN_snoc, IntKind.wrap_u64, IntKind.wrap_u64]
          omega
        have hw8 : IntKind.u8.wrap ((ch.toNat : Int) - 48) = (ch.toNat : Int) - 48 := by rw [IntKind.wrap_u8]; omega
        have hw9 : IntKind.u64.wrap ((ch.toNat : Int) - 48) = (ch.toNat : Int) - 48 := by rw [IntKind.wrap_u64]; omega
        clear hR2 hg hdrop htk hs hd
        go_wp2_with fail
        go_roundg (n - (i + 1))
        case measure => have := Hm.out; omega
        case rel => exact ⟨j + 1, i + 1, _, rfl, by have := Hi.out; omega, by omega, by omega, rfl, by go_num, Hn2, HR3.out, rfl⟩
    · obtain rfl : i = n := by omega
      have hR2 := HR.out
      rw [List.drop_of_length_le (Nat.le_of_eq Hl.out), dscan] at hR2
      have HR3 := Lib.hid hR2
      clear hR2
      go_wp2_with fail
      go_ret3
      rw [HR3.out, numVR_inl]
      exact ⟨rfl, rfl⟩
end Go.Proofs.YtmhaahcbmdhinaaGreatDoor
namespace Go.Proofs.YtmhaahcbmdhinaaGreatDoor
open Go.RowKit
set_option maxRecDepth 100000
set_option linter.unusedVariables false
set_option linter.unusedSimpArgs false
theorem pnum_bad {x sg : UInt8} {l : List UInt8} (h : headE x l ≠ 0) : pnum x sg l = .inl (headE x l) := by
  cases l with
  | nil => rfl
  | cons c r =>
    by_cases hc : c = x
    · rw [headE_cons, if_pos hc] at h
      exact absurd rfl h
    · rw [headE_cons, pnum, if_neg hc, if_neg hc]
theorem head_ok {x : UInt8} {l : List UInt8} (h : headE x l = 0) : ∃ r, l = x :: r := by
  cases l with
  | nil => exact absurd (show (12 : Int) = 0 from h) (by decide)
  | cons c r =>
    by_cases hc : c = x
    · exact ⟨r, by rw [hc]⟩
    · rw [headE_cons, if_neg hc] at h
      omega
def RdRPost (W : World) (ok : Nat → Prop) (s : RdS) (v : Value) (e : Ending) (w' : World) : Prop := ∃ A n c, e = .returned (.tuple #[.agg #[.slice A n c, .int .i64 s.2], v]) ∧ Rd w' ok 1 A n (bs s.1) ∧ n ≤ c ∧ c ≤ maxLen ∧ Below W.heap.size W w'
theorem uintS_none {most : Nat} {s s' : RdS} (h : numS 110 59 s = (s', none)) : uintS most s = (s', 0) := by
  unfold uintS
  rw [boundS_eq h, boundR_none]
theorem uintS_big {most : Nat} {s s' : RdS} {n k : Nat} (h : numS 110 59 s = (s', some (n, k))) (hm : most < n) : uintS most s = ((s'.1, 4), 0) := by
  unfold uintS
  rw [boundS_eq h, boundR_some, if_pos hm]
theorem uintS_ok {most : Nat} {s s' : RdS} {n k : Nat} (h : numS 110 59 s = (s', some (n, k))) (hm : ¬ most < n) : uintS most s = ((s'.1.drop k, s'.2), n) := by
  unfold uintS
  rw [boundS_eq h, boundR_some, if_neg hm]
set_option maxHeartbeats 1600000 in
theorem readUint_any (A : Option Addr) (n c : Nat) (k : Int) (l : List UInt8) (most : Nat) (w : World) {ok : Nat → Prop} (hr : Rd w ok 1 A n (bs l)) (h1 : n ≤ c) (h2 : c ≤ maxLen) :
    Calls Tryz.prog 160 #[.agg #[.slice A n c, .int .i64 k], .int .u64 (most : Nat)] w (RdRPost w ok (uintS most (l, k)).1 (.int .u64 ((uintS most (l, k)).2 : Nat))) := by
  obtain ⟨W0, hW0⟩ : ∃ W0, W0 = (w.alloc (.cells #[.slice A n c, .int .i64 k] 233)).alloc (.cells #[.slice none 0 0, .int .i64 0] 233) := ⟨_, rfl⟩
  have b0 : Bx W0 w.heap.size #[.slice A n c, .int .i64 k] := by subst hW0; exact (Bx.new _ _ _ rfl).alloc _
  have b1 : Bx W0 (w.heap.size + 1) #[.slice none 0 0, .int .i64 0] := by subst hW0; exact Bx.new _ _ _ (by simp)
  have hbe : Below w.heap.size w W0 := by subst hW0; exact ((Below.refl _ _).alloc (Nat.le_refl _) _).alloc (by simp) _
  have hr' : Rd w (fun b => ok b ∧ b < w.heap.size) 1 A n (bs l) := hr.lt (by omega)
  have r0 : Rd W0 (fun b => ok b ∧ b < w.heap.size) 1 A n (bs l) := hr'.below hbe
  have hhd := headR_any A n c k l 110 W0 r0
  obtain ⟨k1, hk1⟩ : ∃ k1, (if k = 0 then headE 110 l else k) = k1 := ⟨_, rfl⟩
  rw [hk1] at hhd
  obtain ⟨c0, c1, f0, f1⟩ := b0.c2
  have HW := Lib.hid hW0
  have B := Lib.hid (And.intro b0 (And.intro b1 hbe))
  have n1 : ¬ w.heap.size + 1 = w.heap.size := by omega
  have n2 : ¬ w.heap.size = w.heap.size + 1 := by omega
  have Hhd := Lib.hid hhd
  have R0 := Lib.hid r0
  have Hc := Lib.hid (And.intro h1 h2)
  have hlen := hr.blen
  clear hW0 b0 b1 hbe hr hr' r0 hhd h1 h2
  -- behind the head: what is in the two boxes
  have mid : ∀ w1, Below W0.heap.size W0 w1 → ∃ W2, W2 = (w1.setCell ⟨w.heap.size, 0, none⟩ (.slice A n c)).setCell ⟨w.heap.size, 1, none⟩ (.int .i64 k1) ∧ Bx W2 w.heap.size #[.slice A n c, .int .i64 k1] ∧ Bx W2 (w.heap.size + 1) #[.slice none 0 0, .int .i64 0] ∧ Rd W2 (fun b => ok b ∧ b < w.heap.size) 1 A n (bs l) ∧ Below w.heap.size w W2 := fun w1 hb => by
    have x0 := B.out.1.below hb
    have x1 := B.out.2.1.below hb
    have hb2 := B.out.2.2.trans (hb.mono B.out.2.2.size)
    refine ⟨_, rfl, by simpa using (x0.set 0 (.slice A n c)).set 1 (.int .i64 k1), (x1.far (p := ⟨w.heap.size, 0, none⟩) (by show w.heap.size + 1 ≠ w.heap.size; omega) _).far (p := ⟨w.heap.size, 1, none⟩) (by show w.heap.size + 1 ≠ w.heap.size; omega) _, ?_, (hb2.setCell (p := ⟨w.heap.size, 0, none⟩) (Nat.le_refl _) _).setCell (p := ⟨w.heap.size, 1, none⟩) (Nat.le_refl _) _⟩
    exact ((R0.out.below hb).setCell (p := ⟨w.heap.size, 0, none⟩) (fun h => Nat.lt_irrefl w.heap.size h.2) _).setCell (p := ⟨w.heap.size, 1, none⟩) (fun h => Nat.lt_irrefl w.heap.size h.2) _
  have Mid := Lib.hid mid
  clear mid
  by_cases hz : k1 = 0
  · subst hz
    have hk0 : k = 0 := by
      by_cases hk : k = 0
      · exact hk
      · rw [if_neg hk] at hk1
        exact absurd hk1 hk
    subst hk0
    rw [if_pos rfl] at hk1
    obtain ⟨r, hl⟩ := head_ok hk1
    obtain ⟨R, hR⟩ : ∃ R, dscan 59 [] r = R := ⟨_, rfl⟩
    have hN : numS 110 59 (l, 0) = numR (l, 0) R := by
      rw [numS_eq rfl]
      show numR (l, 0) (pnum 110 59 l) = _
      rw [hl, pnum, if_pos rfl, hR]
    have hne : ∀ e, R = .inl e → e ≠ 0 := fun e h => dscan_ne (hR.trans h)
    have HL := Lib.hid hl
    have HR := Lib.hid hR
    have HN := Lib.hid hN
    have Hne := Lib.hid hne
    have Hlen := Lib.hid (show 1 ≤ n by rw [hl] at hlen; simp at hlen; omega)
    have HLen := Lib.hid hlen
    clear hl hR hN hne hk1 hlen
    rcases R with e | ⟨u, j⟩
    · have hU : uintS most (l, 0) = ((l, e), 0) := uintS_none (by rw [HN.out, numR_inl])
      have HU := Lib.hid hU
      have he := Hne.out e rfl
      have hed : (e == 0) = false := by simpa using he
      have hed2 : (e != 0) = true := by simpa using he
      clear hU he
      go_enter Tryz.func160, Tryz.ntmps160
      go_upto_region 1 with (fail)
      rw [← HW.out]
      go_wp2_with fail
      refine Hhd.out.mono ?_
      rintro r1 w1 ⟨rfl, hb1⟩
      obtain ⟨W2, hW2, x0, x1, r2, hb2⟩ := Mid.out _ hb1
      obtain ⟨y0, y1, g0, g1⟩ := (B.out.1.below hb1).c2
      have hdg := digitsR_any A n c l 1 59 W2 r2 Hc.out.1 Hc.out.2 Hlen.out
      rw [HL.out, List.drop_one, List.tail_cons, HR.out] at hdg
      have Hdg := Lib.hid hdg
      have X := Lib.hid (And.intro x0 (And.intro x1 (And.intro r2 hb2)))
      have HW2 := Lib.hid hW2
      clear hb1 hW2 x0 x1 r2 hb2 c0 c1 f0 f1 hdg
      unfold rvR
      go_upto_region 2 with (fail)
      rw [← HW2.out]
      obtain ⟨c0, c1, f0, f1⟩ := X.out.1.c2
      obtain ⟨d0, d1, e0, e1⟩ := X.out.2.1.c2
      clear y0 y1 g0 g1
      go_wp2_with fail
      refine Hdg.out.mono ?_
      rintro r3 w3 ⟨rfl, rfl⟩
      rw [numVR_inl]
      have hfl := failR_any A n c 0 e w3
      rw [if_pos rfl] at hfl
      have Hfl := Lib.hid hfl
      clear hfl
      go_wp2_with fail
      refine Hfl.out.mono ?_
      rintro r4 w4 ⟨rfl, hb4⟩
      clear c0 c1 f0 f1 d0 d1 e0 e1
      obtain ⟨d0, d1, e0, e1⟩ := (X.out.2.1.below hb4).c2
      have hb5 := X.out.2.2.2.trans (hb4.mono X.out.2.2.2.size)
      have r5 := X.out.2.2.1.below hb4
      have Y := Lib.hid (And.intro hb5 r5)
      clear hb4 hb5 r5
      unfold rvR
      go_wp2_with fail
      refine bodyPost_ret (by simp [results, Tryz.results160, go_sem, d0, d1]; rfl) rfl ?_
      rw [HU.out]
      refine ⟨A, n, c, rfl, ?_, Hc.out.1, Hc.out.2, (Y.out.1.setCell (p := ⟨w.heap.size + 1, 0, none⟩) (by show w.heap.size ≤ w.heap.size + 1; omega) _).setCell (p := ⟨w.heap.size + 1, 1, none⟩) (by show w.heap.size ≤ w.heap.size + 1; omega) _⟩
      have hne : ¬ (ok (w.heap.size + 1) ∧ w.heap.size + 1 < w.heap.size) := fun h => by have := h.2; omega
      exact ((Y.out.2.setCell (p := ⟨w.heap.size + 1, 0, none⟩) hne _).setCell (p := ⟨w.heap.size + 1, 1, none⟩) hne _).mono fun b hb => hb.1
    · by_cases hm : most < u
      · have hU : uintS most (l, 0) = ((l, 4), 0) := uintS_big (n := u) (k := j + 2) (by rw [HN.out, numR_inr]) hm
        have HU := Lib.hid hU
        have hmN : decide (most < u) = true := decide_eq_true hm
        clear hU hm
        go_enter Tryz.func160, Tryz.ntmps160
        go_upto_region 1 with (fail)
        rw [← HW.out]
        go_wp2_with fail
        refine Hhd.out.mono ?_
        rintro r1 w1 ⟨rfl, hb1⟩
        obtain ⟨W2, hW2, x0, x1, r2, hb2⟩ := Mid.out _ hb1
        obtain ⟨y0, y1, g0, g1⟩ := (B.out.1.below hb1).c2
        have hdg := digitsR_any A n c l 1 59 W2 r2 Hc.out.1 Hc.out.2 Hlen.out
        rw [HL.out, List.drop_one, List.tail_cons, HR.out] at hdg
        have Hdg := Lib.hid hdg
        have X := Lib.hid (And.intro x0 (And.intro x1 (And.intro r2 hb2)))
        have HW2 := Lib.hid hW2
        clear hb1 hW2 x0 x1 r2 hb2 c0 c1 f0 f1 hdg
        unfold rvR
        go_upto_region 2 with (fail)
        rw [← HW2.out]
        obtain ⟨c0, c1, f0, f1⟩ := X.out.1.c2
        obtain ⟨d0, d1, e0, e1⟩ := X.out.2.1.c2
        clear y0 y1 g0 g1
        go_wp2_with fail
        refine Hdg.out.mono ?_
        rintro r3 w3 ⟨rfl, rfl⟩
        rw [numVR_inr]
        have hfl := failR_any A n c 0 4 w3
        rw [if_pos rfl] at hfl
        have Hfl := Lib.hid hfl
        clear hfl
        go_wp2_with fail
        refine Hfl.out.mono ?_
        rintro r4 w4 ⟨rfl, hb4⟩
        clear c0 c1 f0 f1 d0 d1 e0 e1
        obtain ⟨d0, d1, e0, e1⟩ := (X.out.2.1.below hb4).c2
        have hb5 := X.out.2.2.2.trans (hb4.mono X.out.2.2.2.size)
        have r5 := X.out.2.2.1.below hb4
        have Y := Lib.hid (And.intro hb5 r5)
        clear hb4 hb5 r5
        unfold rvR
        go_wp2_with fail
        refine bodyPost_ret (by simp [results, Tryz.results160, go_sem, d0, d1]; rfl) rfl ?_
        rw [HU.out]
        refine ⟨A, n, c, rfl, ?_, Hc.out.1, Hc.out.2, (Y.out.1.setCell (p := ⟨w.heap.size + 1, 0, none⟩) (by show w.heap.size ≤ w.heap.size + 1; omega) _).setCell (p := ⟨w.heap.size + 1, 1, none⟩) (by show w.heap.size ≤ w.heap.size + 1; omega) _⟩
        have hne : ¬ (ok (w.heap.size + 1) ∧ w.heap.size + 1 < w.heap.size) := fun h => by have := h.2; omega
        exact ((Y.out.2.setCell (p := ⟨w.heap.size + 1, 0, none⟩) hne _).setCell (p := ⟨w.heap.size + 1, 1, none⟩) hne _).mono fun b hb => hb.1
      · have hU : uintS most (l, 0) = ((l.drop (j + 2), 0), u) := uintS_ok (n := u) (k := j + 2) (by rw [HN.out, numR_inr]) hm
        have HU := Lib.hid hU
        have hmN : decide (most < u) = false := decide_eq_false hm
        have hk22 := (numS_some (x := 110) (sg := 59) (s := (l, 0)) (s' := (l, 0)) (n := u) (k := j + 2) (by rw [HN.out, numR_inr])).2.2.1
        have Hk := Lib.hid hk22
        clear hU hm hk22
        go_enter Tryz.func160, Tryz.ntmps160
        go_upto_region 1 with (fail)
        rw [← HW.out]
        go_wp2_with fail
        refine Hhd.out.mono ?_
        rintro r1 w1 ⟨rfl, hb1⟩
        obtain ⟨W2, hW2, x0, x1, r2, hb2⟩ := Mid.out _ hb1
        obtain ⟨y0, y1, g0, g1⟩ := (B.out.1.below hb1).c2
        have hdg := digitsR_any A n c l 1 59 W2 r2 Hc.out.1 Hc.out.2 Hlen.out
        rw [HL.out, List.drop_one, List.tail_cons, HR.out] at hdg
        have Hdg := Lib.hid hdg
        have X := Lib.hid (And.intro x0 (And.intro x1 (And.intro r2 hb2)))
        have HW2 := Lib.hid hW2
        clear hb1 hW2 x0 x1 r2 hb2 c0 c1 f0 f1 hdg
        unfold rvR
        go_upto_region 2 with (fail)
        rw [← HW2.out]
        obtain ⟨c0, c1, f0, f1⟩ := X.out.1.c2
        obtain ⟨d0, d1, e0, e1⟩ := X.out.2.1.c2
        clear y0 y1 g0 g1
        go_wp2_with fail
        refine Hdg.out.mono ?_
        rintro r3 w3 ⟨rfl, rfl⟩
        rw [numVR_inr]
        have hend : ((1 + j + 1 : Nat) : Int) = ((j + 2 : Nat) : Int) := by omega
        rw [hend]
        obtain ⟨z, hz⟩ : ∃ z, z = j + 2 := ⟨_, rfl⟩
        rw [← hz]
        have hzn : z ≤ n := by have h5 : j + 2 ≤ l.length := Hk.out; have := HLen.out; omega
        have hsl : ∀ W, (Instr.sliceAt 26 (.slice A n c) (some (.int .i64 (z : Int))) none none).run Tryz.prog W = .ok (.slice (if c = z then A else A.map (·.add z)) (n - z) (c - z)) W := fun W => by
          have := run_slice_lo (P := Tryz.prog) 26 Tryz.underlying26 (size := 1) (by kernel_rfl) A n c W z hzn
          rw [Nat.mul_one] at this
          exact this
        have hrs := X.out.2.2.1.bsub (i := z) (k := n - z) (m := c) (by omega) (by have := Hc.out.1; omega)
        rw [List.take_of_length_le (by rw [List.length_drop]; have := HLen.out; omega)] at hrs
        generalize (if c = z then A else A.map (·.add z)) = A5 at hsl hrs
        have Hrs := Lib.hid hrs
        have HZ := Lib.hid hz
        have hzI : (z : Int) ≤ n := by omega
        have n1' := n1
        clear hrs hz
        go_wp2_with fail
        refine bodyPost_ret (by simp [results, Tryz.results160, go_sem, c0, c1, d0, d1, n1, n2]; rfl) rfl ?_
        rw [HU.out]
        have hc := Hc.out
        refine ⟨A5, n - z, c - z, rfl, ?_, by omega, by omega, ((X.out.2.2.2.setCell (p := ⟨w.heap.size, 0, none⟩) (Nat.le_refl _) _).setCell (p := ⟨w.heap.size + 1, 0, none⟩) (by show w.heap.size ≤ w.heap.size + 1; omega) _).setCell (p := ⟨w.heap.size + 1, 1, none⟩) (by show w.heap.size ≤ w.heap.size + 1; omega) _⟩
        have hne : ¬ (ok (w.heap.size + 1) ∧ w.heap.size + 1 < w.heap.size) := fun h => by have := h.2; omega
        have hfin := (((Hrs.out.setCell (p := ⟨w.heap.size, 0, none⟩) (fun h => Nat.lt_irrefl w.heap.size h.2) (.slice A5 (n - z) (c - z))).setCell (p := ⟨w.heap.size + 1, 0, none⟩) hne (.slice A5 (n - z) (c - z))).setCell (p := ⟨w.heap.size + 1, 1, none⟩) hne (.int .i64 0)).mono fun b hb => hb.1
        rw [HZ.out] at hfin ⊢
        exact hfin
  · have hN : numS 110 59 (l, k) = ((l, k1), none) := by
      by_cases hk : k = 0
      · subst hk
        rw [if_pos rfl] at hk1
        rw [numS_eq rfl, pnum_bad (by rw [hk1]; exact hz), numR_inl, hk1]
      · rw [if_neg hk] at hk1
        subst hk1
        unfold numS
        rw [if_pos hk]
    have hU := uintS_none (most := most) hN
    have hzd : (k1 != 0) = true := by simpa using hz
    have HU := Lib.hid hU
    clear hN hU hk1 hz
    go_enter Tryz.func160, Tryz.ntmps160
    go_upto_region 1 with (fail)
    rw [← HW.out]
    go_wp2_with fail
    refine Hhd.out.mono ?_
    rintro r w1 ⟨rfl, hb1⟩
    obtain ⟨W2, hW2, x0, x1, r2, hb2⟩ := Mid.out _ hb1
    obtain ⟨y0, y1, g0, g1⟩ := (B.out.1.below hb1).c2
    have X := Lib.hid (And.intro x0 (And.intro x1 (And.intro r2 hb2)))
    have HW2 := Lib.hid hW2
    clear hb1 hW2 x0 x1 r2 hb2 c0 c1 f0 f1
    unfold rvR
    go_upto_region 2 with (fail)
    rw [← HW2.out]
    obtain ⟨c0, c1, f0, f1⟩ := X.out.1.c2
    obtain ⟨d0, d1, e0, e1⟩ := X.out.2.1.c2
    clear y0 y1 g0 g1
    go_wp2_with fail
    refine bodyPost_ret (by simp [results, Tryz.results160, go_sem, d0, d1]; rfl) rfl ?_
    rw [HU.out]
    refine ⟨A, n, c, rfl, ?_, Hc.out.1, Hc.out.2, (X.out.2.2.2.setCell (p := ⟨w.heap.size + 1, 0, none⟩) (by show w.heap.size ≤ w.heap.size + 1; omega) _).setCell (p := ⟨w.heap.size + 1, 1, none⟩) (by show w.heap.size ≤ w.heap.size + 1; omega) _⟩
    have hne : ¬ (ok (w.heap.size + 1) ∧ w.heap.size + 1 < w.heap.size) := fun h => by have := h.2; omega
    exact ((X.out.2.2.1.setCell (p := ⟨w.heap.size + 1, 0, none⟩) hne _).setCell (p := ⟨w.heap.size + 1, 1, none⟩) hne _).mono fun b hb => hb.1
end Go.Proofs.YtmhaahcbmdhinaaGreatDoor
namespace Go.Proofs.YtmhaahcbmdhinaaGreatDoor
open Go.RowKit
set_option maxRecDepth 100000
set_option linter.unusedVariables false
set_option linter.unusedSimpArgs false
def RunRPost (W : World) (ok : Nat → Prop) (s : RdS) (b : List UInt8) (e : Ending) (w' : World) : Prop := ∃ A n c B m d, e = .returned (.tuple #[.agg #[.slice A n c, .int .i64 s.2], .slice B m d]) ∧ Rd w' ok 1 A n (bs s.1) ∧ Rd w' ok 1 B m (bs b) ∧ n ≤ c ∧ c ≤ maxLen ∧ m ≤ d ∧ d ≤ maxLen ∧ Below W.heap.size W w'
theorem bytesS_none {most : Nat} {s s' : RdS} (h : numS 98 58 s = (s', none)) : bytesS most s = (s', []) := by
  unfold bytesS
  rw [h]
theorem bytesS_some {most : Nat} {s s' : RdS} {n k : Nat} (h : numS 98 58 s = (s', some (n, k))) : bytesS most s = if most < n then ((s'.1, 2), []) else if s'.1.length - k < n then ((s'.1, 12), []) else ((s'.1.drop (k + n), s'.2), (s'.1.drop k).take n) := by
  unfold bytesS
  rw [h]
set_option maxHeartbeats 1600000 in
theorem runR_any (A : Option Addr) (n c : Nat) (k : Int) (l : List UInt8) (most : Nat) (w : World) {ok : Nat → Prop} (hr : Rd w ok 1 A n (bs l)) (h1 : n ≤ c) (h2 : c ≤ maxLen) (hmost : most ≤ 2000000) :
    Calls Tryz.prog 223 #[.agg #[.slice A n c, .int .i64 k], .int .u8 98, .int .i64 (most : Nat)] w (RunRPost w ok (bytesS most (l, k)).1 (bytesS most (l, k)).2) := by
  obtain ⟨W0, hW0⟩ : ∃ W0, W0 = (w.alloc (.cells #[.slice A n c, .int .i64 k] 233)).alloc (.cells #[.slice none 0 0, .int .i64 0] 233) := ⟨_, rfl⟩
  have b0 : Bx W0 w.heap.size #[.slice A n c, .int .i64 k] := by subst hW0; exact (Bx.new _ _ _ rfl).alloc _
  have b1 : Bx W0 (w.heap.size + 1) #[.slice none 0 0, .int .i64 0] := by subst hW0; exact Bx.new _ _ _ (by simp)
  have hbe : Below w.heap.size w W0 := by subst hW0; exact ((Below.refl _ _).alloc (Nat.le_refl _) _).alloc (by simp) _
  have hr' : Rd w (fun b => ok b ∧ b < w.heap.size) 1 A n (bs l) := hr.lt (by omega)
  have r0 : Rd W0 (fun b => ok b ∧ b < w.heap.size) 1 A n (bs l) := hr'.below hbe
  have hhd := headR_any A n c k l 98 W0 r0
  obtain ⟨k1, hk1⟩ : ∃ k1, (if k = 0 then headE 98 l else k) = k1 := ⟨_, rfl⟩
  rw [hk1] at hhd
  obtain ⟨c0, c1, f0, f1⟩ := b0.c2
  have HW := Lib.hid hW0
  have B := Lib.hid (And.intro b0 (And.intro b1 hbe))
  have n1 : ¬ w.heap.size + 1 = w.heap.size := by omega
  have n2 : ¬ w.heap.size = w.heap.size + 1 := by omega
  have Hhd := Lib.hid hhd
  have R0 := Lib.hid r0
  have Hc := Lib.hid (And.intro h1 h2)
  have hlen := hr.blen
  clear hW0 b0 b1 hbe hr hr' r0 hhd h1 h2
  -- behind the head: what is in the two boxes
  have mid : ∀ w1, Below W0.heap.size W0 w1 → ∃ W2, W2 = (w1.setCell ⟨w.heap.size, 0, none⟩ (.slice A n c)).setCell ⟨w.heap.size, 1, none⟩ (.int .i64 k1) ∧ Bx W2 w.heap.size #[.slice A n c, .int .i64 k1] ∧ Bx W2 (w.heap.size + 1) #[.slice none 0 0, .int .i64 0] ∧ Rd W2 (fun b => ok b ∧ b < w.heap.size) 1 A n (bs l) ∧ Below w.heap.size w W2 := fun w1 hb => by
    have x0 := B.out.1.below hb
    have x1 := B.out.2.1.below hb
    have hb2 := B.out.2.2.trans (hb.mono B.out.2.2.size)
    refine ⟨_, rfl, by simpa using (x0.set 0 (.slice A n c)).set 1 (.int .i64 k1), (x1.far (p := ⟨w.heap.size, 0, none⟩) (by show w.heap.size + 1 ≠ w.heap.size; omega) _).far (p := ⟨w.heap.size, 1, none⟩) (by show w.heap.size + 1 ≠ w.heap.size; omega) _, ?_, (hb2.setCell (p := ⟨w.heap.size, 0, none⟩) (Nat.le_refl _) _).setCell (p := ⟨w.heap.size, 1, none⟩) (Nat.le_refl _) _⟩
    exact ((R0.out.below hb).setCell (p := ⟨w.heap.size, 0, none⟩) (fun h => Nat.lt_irrefl w.heap.size h.2) _).setCell (p := ⟨w.heap.size, 1, none⟩) (fun h => Nat.lt_irrefl w.heap.size h.2) _
  have Mid := Lib.hid mid
  clear mid
  have hmw : IntKind.u64.wrap (most : Int) = (most : Int) := by rw [IntKind.wrap_u64]; omega
  have hm0 : decide ((most : Int) < 0) = false := decide_eq_false (by omega)
  have hkc : k = 0 ∨ (k == 0) = false := by
    by_cases h : k = 0
    · exact .inl h
    · exact .inr (by simpa using h)
  by_cases hz : k1 = 0
  · subst hz
    clear hkc
    have hk0 : k = 0 := by
      by_cases hk : k = 0
      · exact hk
      · rw [if_neg hk] at hk1
        exact absurd hk1 hk
    subst hk0
    rw [if_pos rfl] at hk1
    obtain ⟨r, hl⟩ := head_ok hk1
    obtain ⟨R, hR⟩ : ∃ R, dscan 58 [] r = R := ⟨_, rfl⟩
    have hN : numS 98 58 (l, 0) = numR (l, 0) R := by
      rw [numS_eq rfl]
      show numR (l, 0) (pnum 98 58 l) = _
      rw [hl, pnum, if_pos rfl, hR]
    have hne : ∀ e, R = .inl e → e ≠ 0 := fun e h => dscan_ne (hR.trans h)
    have HL := Lib.hid hl
    have HR := Lib.hid hR
    have HN := Lib.hid hN
    have Hne := Lib.hid hne
    have Hlen := Lib.hid (show 1 ≤ n by rw [hl] at hlen; simp at hlen; omega)
    have HLen := Lib.hid hlen
    clear hl hR hN hne hk1 hlen
    rcases R with e | ⟨u, j⟩
    · have hU : bytesS most (l, 0) = ((l, e), []) := bytesS_none (by rw [HN.out, numR_inl])
      have HU := Lib.hid hU
      have he := Hne.out e rfl
      have hed : (e == 0) = false := by simpa using he
      have hed2 : (e != 0) = true := by simpa using he
      clear hU he
      go_enter Tryz.func223, Tryz.ntmps223
      go_upto_region 1 with (fail)
      rw [← HW.out]
      go_wp2_with fail
      refine Hhd.out.mono ?_
      rintro r1 w1 ⟨rfl, hb1⟩
      obtain ⟨W2, hW2, x0, x1, r2, hb2⟩ := Mid.out _ hb1
      obtain ⟨y0, y1, g0, g1⟩ := (B.out.1.below hb1).c2
      have hdg := digitsR_any A n c l 1 58 W2 r2 Hc.out.1 Hc.out.2 Hlen.out
      rw [HL.out, List.drop_one, List.tail_cons, HR.out] at hdg
      have Hdg := Lib.hid hdg
      have X := Lib.hid (And.intro x0 (And.intro x1 (And.intro r2 hb2)))
      have HW2 := Lib.hid hW2
      clear hb1 hW2 x0 x1 r2 hb2 c0 c1 f0 f1 hdg
      unfold rvR
      go_upto_region 4 with (fail)
      rw [← HW2.out]
      obtain ⟨c0, c1, f0, f1⟩ := X.out.1.c2
      obtain ⟨d0, d1, e0, e1⟩ := X.out.2.1.c2
      clear y0 y1 g0 g1
      go_wp2_with fail
      refine Hdg.out.mono ?_
      rintro r3 w3 ⟨rfl, rfl⟩
      rw [numVR_inl]
      have hfl := failR_any A n c 0 e w3
      rw [if_pos rfl] at hfl
      have Hfl := Lib.hid hfl
      clear hfl
      go_wp2_with fail
      refine Hfl.out.mono ?_
      rintro r4 w4 ⟨rfl, hb4⟩
      clear c0 c1 f0 f1 d0 d1 e0 e1
      obtain ⟨d0, d1, e0, e1⟩ := (X.out.2.1.below hb4).c2
      have hb5 := X.out.2.2.2.trans (hb4.mono X.out.2.2.2.size)
      have r5 := X.out.2.2.1.below hb4
      have Y := Lib.hid (And.intro hb5 r5)
      clear hb4 hb5 r5
      unfold rvR
      go_wp2_with fail
      refine bodyPost_ret (by simp [results, Tryz.results223, go_sem, d0, d1]; rfl) rfl ?_
      rw [HU.out]
      refine ⟨A, n, c, none, 0, 0, rfl, ?_, Rd.none_, Hc.out.1, Hc.out.2, by omega, by simp [maxLen], (Y.out.1.setCell (p := ⟨w.heap.size + 1, 0, none⟩) (by show w.heap.size ≤ w.heap.size + 1; omega) _).setCell (p := ⟨w.heap.size + 1, 1, none⟩) (by show w.heap.size ≤ w.heap.size + 1; omega) _⟩
      have hne : ¬ (ok (w.heap.size + 1) ∧ w.heap.size + 1 < w.heap.size) := fun h => by have := h.2; omega
      exact ((Y.out.2.setCell (p := ⟨w.heap.size + 1, 0, none⟩) hne _).setCell (p := ⟨w.heap.size + 1, 1, none⟩) hne _).mono fun b hb => hb.1
    · have hS := numS_some (x := 98) (sg := 58) (s := (l, 0)) (s' := (l, 0)) (n := u) (k := j + 2) (by rw [HN.out, numR_inr])
      have hB := bytesS_some (most := most) (s := (l, 0)) (s' := (l, 0)) (n := u) (k := j + 2) (by rw [HN.out, numR_inr])
      have hk22 : j + 2 ≤ l.length := hS.2.2.1
      have hj22 : j + 2 ≤ 22 := hS.2.2.2.2
      clear hS
      by_cases hm : most < u
      · rw [if_pos hm] at hB
        have HU := Lib.hid hB
        have hmN : decide (most < u) = true := decide_eq_true hm
        clear hB hm
        go_enter Tryz.func223, Tryz.ntmps223
        go_upto_region 1 with (fail)
        rw [← HW.out]
        go_wp2_with fail
        refine Hhd.out.mono ?_
        rintro r1 w1 ⟨rfl, hb1⟩
        obtain ⟨W2, hW2, x0, x1, r2, hb2⟩ := Mid.out _ hb1
        obtain ⟨y0, y1, g0, g1⟩ := (B.out.1.below hb1).c2
        have hdg := digitsR_any A n c l 1 58 W2 r2 Hc.out.1 Hc.out.2 Hlen.out
        rw [HL.out, List.drop_one, List.tail_cons, HR.out] at hdg
        have Hdg := Lib.hid hdg
        have X := Lib.hid (And.intro x0 (And.intro x1 (And.intro r2 hb2)))
        have HW2 := Lib.hid hW2
        clear hb1 hW2 x0 x1 r2 hb2 c0 c1 f0 f1 hdg
        unfold rvR
        go_upto_region 4 with (fail)
        rw [← HW2.out]
        obtain ⟨c0, c1, f0, f1⟩ := X.out.1.c2
        obtain ⟨d0, d1, e0, e1⟩ := X.out.2.1.c2
        clear y0 y1 g0 g1
        go_wp2_with fail
        refine Hdg.out.mono ?_
        rintro r3 w3 ⟨rfl, rfl⟩
        rw [numVR_inr]
        have hfl := failR_any A n c 0 2 w3
        rw [if_pos rfl] at hfl
        have Hfl := Lib.hid hfl
        clear hfl
        go_wp2_with fail
        refine Hfl.out.mono ?_
        rintro r4 w4 ⟨rfl, hb4⟩
        clear c0 c1 f0 f1 d0 d1 e0 e1
        obtain ⟨d0, d1, e0, e1⟩ := (X.out.2.1.below hb4).c2
        have hb5 := X.out.2.2.2.trans (hb4.mono X.out.2.2.2.size)
        have r5 := X.out.2.2.1.below hb4
        have Y := Lib.hid (And.intro hb5 r5)
        clear hb4 hb5 r5
        unfold rvR
        go_wp2_with fail
        refine bodyPost_ret (by simp [results, Tryz.results223, go_sem, d0, d1]; rfl) rfl ?_
        rw [HU.out]
        refine ⟨A, n, c, none, 0, 0, rfl, ?_, Rd.none_, Hc.out.1, Hc.out.2, by omega, by simp [maxLen], (Y.out.1.setCell (p := ⟨w.heap.size + 1, 0, none⟩) (by show w.heap.size ≤ w.heap.size + 1; omega) _).setCell (p := ⟨w.heap.size + 1, 1, none⟩) (by show w.heap.size ≤ w.heap.size + 1; omega) _⟩
        have hne : ¬ (ok (w.heap.size + 1) ∧ w.heap.size + 1 < w.heap.size) := fun h => by have := h.2; omega
        exact ((Y.out.2.setCell (p := ⟨w.heap.size + 1, 0, none⟩) hne _).setCell (p := ⟨w.heap.size + 1, 1, none⟩) hne _).mono fun b hb => hb.1
      rw [if_neg hm] at hB
      have hmN : decide (most < u) = false := decide_eq_false hm
      have hum : u ≤ 2000000 := by omega
      obtain ⟨d, hd⟩ : ∃ d, n - (j + 2) = d := ⟨_, rfl⟩
      obtain ⟨y, hy⟩ : ∃ y, y = j + 2 := ⟨_, rfl⟩
      have hmc : maxLen = 9223372036854775807 := by decide
      have hcc := Hc.out
      have w1' : IntKind.i64.wrap ((n : Int) - (y : Int)) = (d : Int) := by have := HLen.out; rw [IntKind.wrap_i64]; omega
      have w2' : IntKind.u64.wrap (d : Int) = (d : Int) := by rw [IntKind.wrap_u64]; omega
      have hyl : y ≤ l.length := by omega
      have HD := Lib.hid (And.intro hd (And.intro hy hyl))
      have hend : ((1 + j + 1 : Nat) : Int) = (y : Int) := by omega
      clear hm
      by_cases hlt : d < u
      · rw [if_pos (show l.length - (j + 2) < u by have := HLen.out; omega)] at hB
        have HU := Lib.hid hB
        have hdN : decide (d < u) = true := decide_eq_true hlt
        clear hB hlt hd hy hcc hmc hyl hk22
        go_enter Tryz.func223, Tryz.ntmps223
        go_upto_region 1 with (fail)
        rw [← HW.out]
        go_wp2_with fail
        refine Hhd.out.mono ?_
        rintro r1 w1 ⟨rfl, hb1⟩
        obtain ⟨W2, hW2, x0, x1, r2, hb2⟩ := Mid.out _ hb1
        obtain ⟨y0, y1, g0, g1⟩ := (B.out.1.below hb1).c2
        have hdg := digitsR_any A n c l 1 58 W2 r2 Hc.out.1 Hc.out.2 Hlen.out
        rw [HL.out, List.drop_one, List.tail_cons, HR.out] at hdg
        have Hdg := Lib.hid hdg
        have X := Lib.hid (And.intro x0 (And.intro x1 (And.intro r2 hb2)))
        have HW2 := Lib.hid hW2
        clear hb1 hW2 x0 x1 r2 hb2 c0 c1 f0 f1 hdg
        unfold rvR
        go_upto_region 4 with (fail)
        rw [← HW2.out]
        obtain ⟨c0, c1, f0, f1⟩ := X.out.1.c2
        obtain ⟨d0, d1, e0, e1⟩ := X.out.2.1.c2
        clear y0 y1 g0 g1
        go_wp2_with fail
        refine Hdg.out.mono ?_
        rintro r3 w3 ⟨rfl, rfl⟩
        rw [numVR_inr, hend]
        clear hend
        have hfl := failR_any A n c 0 12 w3
        rw [if_pos rfl] at hfl
        have Hfl := Lib.hid hfl
        clear hfl
        go_wp2_with fail
        refine Hfl.out.mono ?_
        rintro r4 w4 ⟨rfl, hb4⟩
        clear c0 c1 f0 f1 d0 d1 e0 e1
        obtain ⟨d0, d1, e0, e1⟩ := (X.out.2.1.below hb4).c2
        have hb5 := X.out.2.2.2.trans (hb4.mono X.out.2.2.2.size)
        have r5 := X.out.2.2.1.below hb4
        have Y := Lib.hid (And.intro hb5 r5)
        clear hb4 hb5 r5
        unfold rvR
        go_wp2_with fail
        refine bodyPost_ret (by simp [results, Tryz.results223, go_sem, d0, d1]; rfl) rfl ?_
        rw [HU.out]
        refine ⟨A, n, c, none, 0, 0, rfl, ?_, Rd.none_, Hc.out.1, Hc.out.2, by omega, by simp [maxLen], (Y.out.1.setCell (p := ⟨w.heap.size + 1, 0, none⟩) (by show w.heap.size ≤ w.heap.size + 1; omega) _).setCell (p := ⟨w.heap.size + 1, 1, none⟩) (by show w.heap.size ≤ w.heap.size + 1; omega) _⟩
        have hne : ¬ (ok (w.heap.size + 1) ∧ w.heap.size + 1 < w.heap.size) := fun h => by have := h.2; omega
        exact ((Y.out.2.setCell (p := ⟨w.heap.size + 1, 0, none⟩) hne _).setCell (p := ⟨w.heap.size + 1, 1, none⟩) hne _).mono fun b hb => hb.1
      rw [if_neg (show ¬ l.length - (j + 2) < u by have := HLen.out; omega)] at hB
      have HU := Lib.hid hB
      have hdN : decide (d < u) = false := decide_eq_false hlt
      obtain ⟨z, hz⟩ : ∃ z, z = y + u := ⟨_, rfl⟩
      have hzw : IntKind.i64.wrap ((y : Int) + (u : Int)) = (z : Int) := by rw [IntKind.wrap_i64]; omega
      have huw : IntKind.i64.wrap (u : Int) = (u : Int) := by rw [IntKind.wrap_i64]; omega
      have hzn : z ≤ n := by have := HLen.out; omega
      have hyz : y ≤ z := by omega
      have HZ := Lib.hid (And.intro hz (And.intro hzn hyz))
      have hzI : (z : Int) ≤ n := by omega
      have hyzI : (y : Int) ≤ z := by omega
      have hzcI : (z : Int) ≤ c := by omega
      clear hB hlt hd hy hcc hmc hyl hk22 hz hzn hyz
      go_enter Tryz.func223, Tryz.ntmps223
      go_upto_region 1 with (fail)
      rw [← HW.out]
      go_wp2_with fail
      refine Hhd.out.mono ?_
      rintro r1 w1 ⟨rfl, hb1⟩
      obtain ⟨W2, hW2, x0, x1, r2, hb2⟩ := Mid.out _ hb1
      obtain ⟨y0, y1, g0, g1⟩ := (B.out.1.below hb1).c2
      have hdg := digitsR_any A n c l 1 58 W2 r2 Hc.out.1 Hc.out.2 Hlen.out
      rw [HL.out, List.drop_one, List.tail_cons, HR.out] at hdg
      have Hdg := Lib.hid hdg
      have X := Lib.hid (And.intro x0 (And.intro x1 (And.intro r2 hb2)))
      have HW2 := Lib.hid hW2
      clear hb1 hW2 x0 x1 r2 hb2 c0 c1 f0 f1 hdg
      unfold rvR
      go_upto_region 4 with (fail)
      rw [← HW2.out]
      obtain ⟨c0, c1, f0, f1⟩ := X.out.1.c2
      obtain ⟨d0, d1, e0, e1⟩ := X.out.2.1.c2
      clear y0 y1 g0 g1
      go_wp2_with fail
      refine Hdg.out.mono ?_
      rintro r3 w3 ⟨rfl, rfl⟩
      rw [numVR_inr, hend]
      clear hend
      have hsl : ∀ W, (Instr.sliceAt 26 (.slice A n c) (some (.int .i64 (y : Int))) (some (.int .i64 (z : Int))) none).run Tryz.prog W = .ok (.slice (if c = y then A else A.map (·.add y)) u (c - y)) W := fun W => by
        have := run_slice_lohi (P := Tryz.prog) 26 Tryz.underlying26 (size := 1) (by kernel_rfl) A n c W y z (by have := HZ.out; omega) (by have := HZ.out; have := Hc.out; omega)
        rw [Nat.mul_one, show z - y = u by have := HZ.out; omega] at this
        exact this
      have hsl2 : ∀ W, (Instr.sliceAt 26 (.slice A n c) (some (.int .i64 (z : Int))) none none).run Tryz.prog W = .ok (.slice (if c = z then A else A.map (·.add z)) (n - z) (c - z)) W := fun W => by
        have := run_slice_lo (P := Tryz.prog) 26 Tryz.underlying26 (size := 1) (by kernel_rfl) A n c W z (by have := HZ.out; omega)
        rw [Nat.mul_one] at this
        exact this
      have hrb := X.out.2.2.1.bsub (i := y) (k := u) (m := c) (by have := HZ.out; omega) (by have := HZ.out; have := Hc.out; omega)
      have hrs := X.out.2.2.1.bsub (i := z) (k := n - z) (m := c) (by have := HZ.out; omega) (by have := HZ.out; have := Hc.out; omega)
      rw [List.take_of_length_le (by rw [List.length_drop]; have := HLen.out; omega)] at hrs
      generalize (if c = y then A else A.map (·.add y)) = A6 at hsl hrb
      generalize (if c = z then A else A.map (·.add z)) = A5 at hsl2 hrs
      have Hrs := Lib.hid (And.intro hrb hrs)
      clear hrs hrb
      go_wp2_with fail
      refine bodyPost_ret (by simp [results, Tryz.results223, go_sem, c0, c1, d0, d1, n1, n2]; rfl) rfl ?_
      rw [HU.out]
      have hc := Hc.out
      have hz3 := HZ.out
      have hdd := HD.out
      have hne : ¬ (ok (w.heap.size + 1) ∧ w.heap.size + 1 < w.heap.size) := fun h => by have := h.2; omega
      refine ⟨A5, n - z, c - z, A6, u, c - y, rfl, ?_, ?_, by omega, by omega, by omega, by omega, ((X.out.2.2.2.setCell (p := ⟨w.heap.size, 0, none⟩) (Nat.le_refl _) _).setCell (p := ⟨w.heap.size + 1, 0, none⟩) (by show w.heap.size ≤ w.heap.size + 1; omega) _).setCell (p := ⟨w.heap.size + 1, 1, none⟩) (by show w.heap.size ≤ w.heap.size + 1; omega) _⟩
      · have hfin := (((Hrs.out.2.setCell (p := ⟨w.heap.size, 0, none⟩) (fun h => Nat.lt_irrefl w.heap.size h.2) (.slice A5 (n - z) (c - z))).setCell (p := ⟨w.heap.size + 1, 0, none⟩) hne (.slice A5 (n - z) (c - z))).setCell (p := ⟨w.heap.size + 1, 1, none⟩) hne (.int .i64 0)).mono fun b hb => hb.1
        rw [show j + 2 + u = z by omega]
        exact hfin
      · have hfin := (((Hrs.out.1.setCell (p := ⟨w.heap.size, 0, none⟩) (fun h => Nat.lt_irrefl w.heap.size h.2) (.slice A5 (n - z) (c - z))).setCell (p := ⟨w.heap.size + 1, 0, none⟩) hne (.slice A5 (n - z) (c - z))).setCell (p := ⟨w.heap.size + 1, 1, none⟩) hne (.int .i64 0)).mono fun b hb => hb.1
        rw [show j + 2 = y by omega]
        exact hfin
  · have hN : numS 98 58 (l, k) = ((l, k1), none) := by
      by_cases hk : k = 0
      · subst hk
        rw [if_pos rfl] at hk1
        rw [numS_eq rfl, pnum_bad (by rw [hk1]; exact hz), numR_inl, hk1]
      · rw [if_neg hk] at hk1
        subst hk1
        unfold numS
        rw [if_pos hk]
    have hU := bytesS_none (most := most) hN
    have hzd : (k1 != 0) = true := by simpa using hz
    have HU := Lib.hid hU
    clear hN hU hk1 hz
    rcases hkc with rfl | hkc
    all_goals
      go_enter Tryz.func223, Tryz.ntmps223
      go_upto_region 1 with (fail)
      rw [← HW.out]
      go_wp2_with fail
      refine Hhd.out.mono ?_
      rintro r w1 ⟨rfl, hb1⟩
      obtain ⟨W2, hW2, x0, x1, r2, hb2⟩ := Mid.out _ hb1
      obtain ⟨y0, y1, g0, g1⟩ := (B.out.1.below hb1).c2
      have X := Lib.hid (And.intro x0 (And.intro x1 (And.intro r2 hb2)))
      have HW2 := Lib.hid hW2
      clear hb1 hW2 x0 x1 r2 hb2 c0 c1 f0 f1
      unfold rvR
      go_upto_region 4 with (fail)
      rw [← HW2.out]
      obtain ⟨c0, c1, f0, f1⟩ := X.out.1.c2
      obtain ⟨d0, d1, e0, e1⟩ := X.out.2.1.c2
      clear y0 y1 g0 g1
      go_wp2_with fail
      refine bodyPost_ret (by simp [results, Tryz.results223, go_sem, d0, d1]; rfl) rfl ?_
      rw [HU.out]
      refine ⟨A, n, c, none, 0, 0, rfl, ?_, Rd.none_, Hc.out.1, Hc.out.2, by omega, by simp [maxLen], (X.out.2.2.2.setCell (p := ⟨w.heap.size + 1, 0, none⟩) (by show w.heap.size ≤ w.heap.size + 1; omega) _).setCell (p := ⟨w.heap.size + 1, 1, none⟩) (by show w.heap.size ≤ w.heap.size + 1; omega) _⟩
      have hne : ¬ (ok (w.heap.size + 1) ∧ w.heap.size + 1 < w.heap.size) := fun h => by have := h.2; omega
      exact ((X.out.2.2.1.setCell (p := ⟨w.heap.size + 1, 0, none⟩) hne _).setCell (p := ⟨w.heap.size + 1, 1, none⟩) hne _).mono fun b hb => hb.1
end Go.Proofs.YtmhaahcbmdhinaaGreatDoor
namespace Go.Proofs.YtmhaahcbmdhinaaGreatDoor
open Go.RowKit
set_option maxRecDepth 100000
set_option linter.unusedVariables false
set_option linter.unusedSimpArgs false
theorem readBytes_any (A : Option Addr) (n c : Nat) (k : Int) (l : List UInt8) (most : Nat) (w : World) {ok : Nat → Prop} (hr : Rd w ok 1 A n (bs l)) (h1 : n ≤ c) (h2 : c ≤ maxLen) (hmost : most ≤ 2000000) :
    Calls Tryz.prog 203 #[.agg #[.slice A n c, .int .i64 k], .int .i64 (most : Nat)] w (RunRPost w ok (bytesS most (l, k)).1 (bytesS most (l, k)).2) := by
  obtain ⟨W0, hW0⟩ : ∃ W0, W0 = (w.alloc (.cells #[.slice A n c, .int .i64 k] 233)).alloc (.cells #[.slice none 0 0, .int .i64 0] 233) := ⟨_, rfl⟩
  have b0 : Bx W0 w.heap.size #[.slice A n c, .int .i64 k] := by subst hW0; exact (Bx.new _ _ _ rfl).alloc _
  have b1 : Bx W0 (w.heap.size + 1) #[.slice none 0 0, .int .i64 0] := by subst hW0; exact Bx.new _ _ _ (by simp)
  have hbe : Below w.heap.size w W0 := by subst hW0; exact ((Below.refl _ _).alloc (Nat.le_refl _) _).alloc (by simp) _
  have r0 := hr.below hbe
  have hrun := runR_any A n c k l most W0 r0 h1 h2 hmost
  obtain ⟨⟨s', b⟩, hS⟩ : ∃ q, bytesS most (l, k) = q := ⟨_, rfl⟩
  rw [hS] at hrun ⊢
  obtain ⟨c0, c1, f0, f1⟩ := b0.c2
  have HW := Lib.hid hW0
  have B := Lib.hid (And.intro b1 hbe)
  have Hrun := Lib.hid hrun
  have hz : W0.heap.size = w.heap.size + 2 := by subst hW0; simp
  have Hz := Lib.hid hz
  clear hW0 b0 b1 hbe hr r0 hrun hS hz
  go_enter Tryz.func203, Tryz.ntmps203
  go_upto_region 1 with (fail)
  rw [← HW.out]
  go_wp2_with fail
  refine Hrun.out.mono ?_
  rintro r1 w1 ⟨A1, n1, c1', A2, n2, c2, rfl, r1, r2, m1, m2, m3, m4, hb1⟩
  obtain ⟨d0, d1, e0, e1⟩ := (B.out.1.below hb1).c2
  have hb2 := B.out.2.trans (hb1.mono B.out.2.size)
  have bx1 := B.out.1.below hb1
  have Y := Lib.hid (And.intro hb2 (And.intro (r1.off_box bx1 (by intro i z; rcases i with _ | _ | i <;> simp)) (r2.off_box bx1 (by intro i z; rcases i with _ | _ | i <;> simp))))
  have M := Lib.hid (And.intro m1 (And.intro m2 (And.intro m3 m4)))
  clear c0 c1 f0 f1 hb1 hb2 r1 r2 bx1 m1 m2 m3 m4
  go_wp2_with fail
  refine bodyPost_ret (by simp [results, Tryz.results203, go_sem, d0, d1]; rfl) rfl ?_
  have hne : ¬ (ok (w.heap.size + 1) ∧ w.heap.size + 1 ≠ w.heap.size + 1) := fun h => h.2 rfl
  refine ⟨A1, n1, c1', A2, n2, c2, rfl, ?_, ?_, M.out.1, M.out.2.1, M.out.2.2.1, M.out.2.2.2, (Y.out.1.setCell (p := ⟨w.heap.size + 1, 0, none⟩) (by show w.heap.size ≤ w.heap.size + 1; omega) _).setCell (p := ⟨w.heap.size + 1, 1, none⟩) (by show w.heap.size ≤ w.heap.size + 1; omega) _⟩
  · exact ((Y.out.2.1.setCell (p := ⟨w.heap.size + 1, 0, none⟩) hne _).setCell (p := ⟨w.heap.size + 1, 1, none⟩) hne _).mono fun b hb => hb.1
  · exact ((Y.out.2.2.setCell (p := ⟨w.heap.size + 1, 0, none⟩) hne _).setCell (p := ⟨w.heap.size + 1, 1, none⟩) hne _).mono fun b hb => hb.1
theorem doneR_any (A : Option Addr) (n c : Nat) (k : Int) (l : List UInt8) (w : World) {ok : Nat → Prop} (hr : Rd w ok 1 A n (bs l)) :
    Calls Tryz.prog 161 #[.agg #[.slice A n c, .int .i64 k]] w (fun e w' => e = .returned (.int .i64 (doneS (l, k))) ∧ Below w.heap.size w w') := by
  have b0 := Bx.new w #[.slice A n c, .int .i64 k] 233 rfl
  have hb := (Below.refl w.heap.size w).alloc (Nat.le_refl _) (.cells #[.slice A n c, .int .i64 k] 233)
  have hl := hr.blen
  have Hb := Lib.hid hb
  by_cases hk : k = 0
  · subst hk
    by_cases hn : n = 0
    · have e : doneS (l, 0) = 0 := by
        unfold doneS
        rw [if_neg (fun h => h.2 (List.eq_nil_of_length_eq_zero (show l.length = 0 by omega)))]
      rw [e]
      subst hn
      clear hr hl e hb b0
      go_enter Tryz.func161, Tryz.ntmps161
      go_wp2_with fail
      go_ret
      exact ⟨rfl, Hb.out⟩
    · have e : doneS (l, 0) = 3 := by
        unfold doneS
        rw [if_pos ⟨rfl, fun h => by have h' : l = [] := h; rw [h'] at hl; simp at hl; omega⟩]
      rw [e]
      have hnI : (0 : Int) < n := by omega
      clear hr hl e hb b0
      go_enter Tryz.func161, Tryz.ntmps161
      go_wp2_with fail
      go_ret
      exact ⟨rfl, Hb.out⟩
  · have e : doneS (l, k) = k := by
      unfold doneS
      rw [if_neg (fun h => hk h.1)]
    rw [e]
    have hkd : (k == 0) = false := by simpa using hk
    clear hr hl e hb b0
    go_enter Tryz.func161, Tryz.ntmps161
    go_wp2_with fail
    go_ret
    exact ⟨rfl, Hb.out⟩
theorem boundS_err {most : Nat} {l : List UInt8} {k : Int} {s' : RdS} (h : boundS most (l, k) = (s', none)) : s'.1 = l ∧ s'.2 ≠ 0 ∧ (if k = 0 then s'.2 else k) = s'.2 := by
  have hne := boundS_none h
  obtain ⟨⟨s1, o⟩, hn⟩ : ∃ q, numS 110 59 (l, k) = q := ⟨_, rfl⟩
  rw [boundS_eq hn] at h
  cases o with
  | none =>
    rw [boundR_none] at h
    injection h with h1
    subst h1
    have h2 := (numS_none hn).2
    refine ⟨h2, hne, ?_⟩
    by_cases hk : k = 0
    · rw [if_pos hk]
    · rw [if_neg hk]
      unfold numS at hn
      rw [if_pos hk] at hn
      injection hn with h3
      rw [← h3]
  | some q =>
    obtain ⟨u, j⟩ := q
    have h4 := numS_some hn
    rw [boundR_some] at h
    split at h
    · injection h with h1
      subst h1
      rw [h4.1]
      exact ⟨rfl, (show (4 : Int) ≠ 0 by decide), by rw [if_pos h4.2.1]⟩
    · cases h
set_option maxHeartbeats 800000 in
theorem readCount_any (A : Option Addr) (n c : Nat) (k : Int) (l : List UInt8) (most : Nat) (w : World) {ok : Nat → Prop} (hr : Rd w ok 1 A n (bs l)) (h1 : n ≤ c) (h2 : c ≤ maxLen) (hmost : most ≤ 1000000) :
    Calls Tryz.prog 159 #[.agg #[.slice A n c, .int .i64 k], .int .i64 (most : Nat)] w (RdRPost w ok (countS most (l, k)).1 (.int .i64 ((countS most (l, k)).2 : Nat))) := by
  obtain ⟨W0, hW0⟩ : ∃ W0, W0 = (w.alloc (.cells #[.slice A n c, .int .i64 k] 233)).alloc (.cells #[.slice none 0 0, .int .i64 0] 233) := ⟨_, rfl⟩
  have b0 : Bx W0 w.heap.size #[.slice A n c, .int .i64 k] := by subst hW0; exact (Bx.new _ _ _ rfl).alloc _
  have b1 : Bx W0 (w.heap.size + 1) #[.slice none 0 0, .int .i64 0] := by subst hW0; exact Bx.new _ _ _ (by simp)
  have hbe : Below w.heap.size w W0 := by subst hW0; exact ((Below.refl _ _).alloc (Nat.le_refl _) _).alloc (by simp) _
  have r0 : Rd W0 (fun b => ok b ∧ b < w.heap.size) 1 A n (bs l) := (hr.lt (by omega)).below hbe
  have hu := readUint_any A n c k l most W0 r0 h1 h2
  obtain ⟨c0, c1, f0, f1⟩ := b0.c2
  have hlen := hr.blen
  have HW := Lib.hid hW0
  have B := Lib.hid (And.intro b0 (And.intro b1 (And.intro hbe r0)))
  have Hc := Lib.hid (And.intro h1 h2)
  have hmw : IntKind.u64.wrap (most : Int) = (most : Int) := by rw [IntKind.wrap_u64]; omega
  have hm0 : decide ((most : Int) < 0) = false := decide_eq_false (by omega)
  have n1 : ¬ w.heap.size + 1 = w.heap.size := by omega
  have n2 : ¬ w.heap.size = w.heap.size + 1 := by omega
  have hz : W0.heap.size = w.heap.size + 2 := by subst hW0; simp
  have Hz := Lib.hid hz
  clear hW0 b0 b1 hbe hr r0 hz h1 h2
  obtain ⟨⟨s', o⟩, hq⟩ : ∃ q, boundS most (l, k) = q := ⟨_, rfl⟩
  rcases o with _ | ⟨u, j⟩
  · have hU : uintS most (l, k) = (s', 0) := by unfold uintS; rw [hq]
    have hC : countS most (l, k) = (s', 0) := by unfold countS; rw [hq]
    obtain ⟨e1, e2, e3⟩ := boundS_err hq
    rw [hU] at hu
    obtain ⟨l', k'⟩ := s'
    dsimp only at e1 e2 e3 hu
    subst e1
    have hk2 : (k' != 0) = true := by simpa using e2
    have Hu := Lib.hid hu
    have HC := Lib.hid hC
    have E3 := Lib.hid e3
    clear hu hC hU hq e2 e3
    go_enter Tryz.func159, Tryz.ntmps159
    go_upto_region 1 with (fail)
    rw [← HW.out]
    go_wp2_with fail
    refine Hu.out.mono ?_
    rintro r1 w1 ⟨A1, n3, c3, rfl, -, -, -, hb1⟩
    obtain ⟨W2, hW2⟩ : ∃ W2, W2 = w1.alloc (.cells #[.slice A1 n3 c3, .int .i64 k'] 233) := ⟨_, rfl⟩
    have bx2 : Bx W2 w1.heap.size #[.slice A1 n3 c3, .int .i64 k'] := by subst hW2; exact Bx.new _ _ _ rfl
    have hb2 : Below W0.heap.size W0 W2 := by subst hW2; exact hb1.alloc hb1.size _
    have x0 := B.out.1.below hb2
    have x1 := B.out.2.1.below hb2
    have hfl := failR_any A n c k k' W2
    rw [E3.out] at hfl
    have hbw := B.out.2.2.1.trans (hb2.mono B.out.2.2.1.size)
    have rw2 := B.out.2.2.2.below hb2
    have Hfl := Lib.hid hfl
    have X := Lib.hid (And.intro x1 (And.intro hbw rw2))
    have HW2 := Lib.hid hW2
    obtain ⟨c0, c1, f0, f1⟩ := x0.c2
    obtain ⟨p0, p1, q0, q1⟩ := bx2.c2
    clear hfl x0 x1 hbw rw2 bx2 hb2 hW2 hb1
    go_upto_region 4 with (fail)
    rw [← HW2.out]
    go_wp2_with fail
    refine Hfl.out.mono ?_
    rintro r3 w3 ⟨rfl, hb3⟩
    obtain ⟨d0, d1, e0, e1⟩ := (X.out.1.below hb3).c2
    have Y := Lib.hid (And.intro (X.out.2.1.trans (hb3.mono X.out.2.1.size)) (X.out.2.2.below hb3))
    clear hb3 c0 c1 f0 f1 p0 p1 q0 q1
    unfold rvR
    go_wp2_with fail
    refine bodyPost_ret (by simp [results, Tryz.results159, go_sem, d0, d1]; rfl) rfl ?_
    rw [HC.out]
    refine ⟨A, n, c, rfl, ?_, Hc.out.1, Hc.out.2, (Y.out.1.setCell (p := ⟨w.heap.size + 1, 0, none⟩) (by show w.heap.size ≤ w.heap.size + 1; omega) _).setCell (p := ⟨w.heap.size + 1, 1, none⟩) (by show w.heap.size ≤ w.heap.size + 1; omega) _⟩
    have hne : ¬ (ok (w.heap.size + 1) ∧ w.heap.size + 1 < w.heap.size) := fun h => by have := h.2; omega
    exact ((Y.out.2.setCell (p := ⟨w.heap.size + 1, 0, none⟩) hne _).setCell (p := ⟨w.heap.size + 1, 1, none⟩) hne _).mono fun b hb => hb.1
  · obtain ⟨rfl, hk0, hjl, hum, -⟩ := boundS_some hq
    dsimp only at hk0
    subst hk0
    have hU : uintS most (l, 0) = ((l.drop j, 0), u) := by unfold uintS; rw [hq]
    have hC : countS most (l, 0) = if l.length - j < u then ((l, 2), 0) else ((l.drop j, 0), u) := by unfold countS; rw [hq]
    rw [hU] at hu
    have huw : IntKind.i64.wrap (u : Int) = (u : Int) := by rw [IntKind.wrap_i64]; omega
    have Hu := Lib.hid hu
    have HC := Lib.hid hC
    have Hj := Lib.hid hjl
    clear hu hC hU hq hjl
    go_enter Tryz.func159, Tryz.ntmps159
    go_upto_region 1 with (fail)
    rw [← HW.out]
    go_wp2_with fail
    refine Hu.out.mono ?_
    rintro r1 w1 ⟨A1, n3, c3, rfl, r3, m3, m4, hb1⟩
    have hl3 := r3.blen
    obtain ⟨W2, hW2⟩ : ∃ W2, W2 = w1.alloc (.cells #[.slice A1 n3 c3, .int .i64 0] 233) := ⟨_, rfl⟩
    have bx2 : Bx W2 w1.heap.size #[.slice A1 n3 c3, .int .i64 0] := by subst hW2; exact Bx.new _ _ _ rfl
    have hb2 : Below W0.heap.size W0 W2 := by subst hW2; exact hb1.alloc hb1.size _
    have r4 : Rd W2 (fun b => ok b ∧ b < w.heap.size) 1 A1 n3 (bs (l.drop j)) := by subst hW2; exact r3.alloc _
    have x0 := B.out.1.below hb2
    have x1 := B.out.2.1.below hb2
    have hfl := failR_any A n c 0 2 W2
    rw [if_pos rfl] at hfl
    have hbw := B.out.2.2.1.trans (hb2.mono B.out.2.2.1.size)
    have rw2 := B.out.2.2.2.below hb2
    have Hfl := Lib.hid hfl
    have X := Lib.hid (And.intro x1 (And.intro hbw (And.intro rw2 r4)))
    have HW2 := Lib.hid hW2
    have hlj : n3 = l.length - j := by rw [List.length_drop] at hl3; exact hl3.symm
    have Hlj := Lib.hid hlj
    have hw3 : IntKind.u64.wrap (n3 : Int) = (n3 : Int) := by have hmc : maxLen = 9223372036854775807 := by decide
                                                              rw [IntKind.wrap_u64]; omega
    have M := Lib.hid (And.intro m3 m4)
    have hsz1 := hb1.size
    have hz := Hz.out
    obtain ⟨c0, c1, f0, f1⟩ := x0.c2
    obtain ⟨p0, p1, q0, q1⟩ := bx2.c2
    clear hfl x0 hbw rw2 bx2 hb2 hW2 hb1 r3 r4 hl3 hlj m3 m4
    by_cases hlt : n3 < u
    · have hdN : decide (n3 < u) = true := decide_eq_true hlt
      have Hlt := Lib.hid (show l.length - j < u by have := Hlj.out; omega)
      clear hlt x1
      go_upto_region 4 with (fail)
      rw [← HW2.out]
      go_wp2_with fail
      refine Hfl.out.mono ?_
      rintro r3 w3 ⟨rfl, hb3⟩
      obtain ⟨d0, d1, e0, e1⟩ := (X.out.1.below hb3).c2
      have Y := Lib.hid (And.intro (X.out.2.1.trans (hb3.mono X.out.2.1.size)) (X.out.2.2.1.below hb3))
      clear hb3 c0 c1 f0 f1 p0 p1 q0 q1
      unfold rvR
      go_wp2_with fail
      refine bodyPost_ret (by simp [results, Tryz.results159, go_sem, d0, d1]; rfl) rfl ?_
      rw [HC.out, if_pos Hlt.out]
      refine ⟨A, n, c, rfl, ?_, Hc.out.1, Hc.out.2, (Y.out.1.setCell (p := ⟨w.heap.size + 1, 0, none⟩) (by show w.heap.size ≤ w.heap.size + 1; omega) _).setCell (p := ⟨w.heap.size + 1, 1, none⟩) (by show w.heap.size ≤ w.heap.size + 1; omega) _⟩
      have hne : ¬ (ok (w.heap.size + 1) ∧ w.heap.size + 1 < w.heap.size) := fun h => by have := h.2; omega
      exact ((Y.out.2.setCell (p := ⟨w.heap.size + 1, 0, none⟩) hne _).setCell (p := ⟨w.heap.size + 1, 1, none⟩) hne _).mono fun b hb => hb.1
    · have hdN : decide (n3 < u) = false := decide_eq_false hlt
      have Hlt := Lib.hid (show ¬ l.length - j < u by have := Hlj.out; omega)
      obtain ⟨d0, d1, e0, e1⟩ := x1.c2
      have Y := Lib.hid (X.out.2.2.2.off_box x1 (by intro i z; rcases i with _ | _ | i <;> simp))
      have n3' : ¬ w1.heap.size = w.heap.size + 1 := by omega
      have n4' : ¬ w.heap.size + 1 = w1.heap.size := by omega
      clear hlt x1
      go_upto_region 4 with (fail)
      rw [← HW2.out]
      go_wp2_with fail
      refine bodyPost_ret (by simp [results, Tryz.results159, go_sem, d0, d1]; rfl) rfl ?_
      rw [HC.out, if_neg Hlt.out]
      have hne : ¬ ((ok (w.heap.size + 1) ∧ w.heap.size + 1 < w.heap.size) ∧ w.heap.size + 1 ≠ w.heap.size + 1) := fun h => h.2 rfl
      refine ⟨A1, n3, c3, rfl, ?_, M.out.1, M.out.2, (X.out.2.1.setCell (p := ⟨w.heap.size + 1, 0, none⟩) (by show w.heap.size ≤ w.heap.size + 1; omega) _).setCell (p := ⟨w.heap.size + 1, 1, none⟩) (by show w.heap.size ≤ w.heap.size + 1; omega) _⟩
      exact ((Y.out.setCell (p := ⟨w.heap.size + 1, 0, none⟩) hne _).setCell (p := ⟨w.heap.size + 1, 1, none⟩) hne _).mono fun b hb => hb.1.1
end Go.Proofs.YtmhaahcbmdhinaaGreatDoor
namespace Go.Proofs.YtmhaahcbmdhinaaGreatDoor
open Go.RowKit
set_option maxRecDepth 100000
set_option linter.unusedVariables false
set_option linter.unusedSimpArgs false
abbrev EnS := Nat × Nat × Nat × List UInt8
def entS (s : RdS) : RdS × EnS :=
  let a := uintS 1099511627776 s
  let b := uintS 1099511627776 a.1
  let c := uintS 2 b.1
  let d := bytesS 4096 c.1
  (d.1, (a.2, b.2, c.2, d.2))
def entD (l : List UInt8) : Option EnS :=
  if doneS (entS (l, 0)).1 = 0 ∧ 1 ≤ (entS (l, 0)).2.1 ∧ 1 ≤ (entS (l, 0)).2.2.1 then some (entS (l, 0)).2 else none
def EntPost (W : World) (ok : Nat → Prop) (er : Int → Value) : Option EnS → Ending → World → Prop
  | none, e, w' => e = .returned (.tuple #[.agg #[.int .i64 0, .int .i64 0, .int .i64 0, .slice none 0 0], er 3]) ∧ Below W.heap.size W w'
  | some x, e, w' => ∃ A n m, e = .returned (.tuple #[.agg #[.int .i64 (x.1 : Nat), .int .i64 (x.2.1 : Nat), .int .i64 (x.2.2.1 : Nat), .slice A n m], er 0]) ∧ Rd w' ok 1 A n (bs x.2.2.2) ∧ n ≤ m ∧ m ≤ maxLen ∧ Below W.heap.size W w'
theorem EntPost_none (W : World) (ok : Nat → Prop) (er : Int → Value) (e : Ending) (w' : World) : EntPost W ok er none e w' = (e = .returned (.tuple #[.agg #[.int .i64 0, .int .i64 0, .int .i64 0, .slice none 0 0], er 3]) ∧ Below W.heap.size W w') := rfl
theorem EntPost_some (W : World) (ok : Nat → Prop) (er : Int → Value) (x : EnS) (e : Ending) (w' : World) : EntPost W ok er (some x) e w' = (∃ A n m, e = .returned (.tuple #[.agg #[.int .i64 (x.1 : Nat), .int .i64 (x.2.1 : Nat), .int .i64 (x.2.2.1 : Nat), .slice A n m], er 0]) ∧ Rd w' ok 1 A n (bs x.2.2.2) ∧ n ≤ m ∧ m ≤ maxLen ∧ Below W.heap.size W w') := rfl
theorem uintS_le (most : Nat) (s : RdS) : (uintS most s).2 ≤ most := by
  obtain ⟨⟨s', o⟩, hq⟩ : ∃ q, boundS most s = q := ⟨_, rfl⟩
  unfold uintS
  rw [hq]
  rcases o with _ | ⟨u, k⟩
  · exact Nat.zero_le _
  · exact (boundS_some hq).2.2.2.1
theorem EvW.mono {W : World} {p q : Nat} (h : EvW W p) (hq : p ≤ q) : EvW W q := by
  obtain ⟨te, pe, tr, pr, h1, h2, h3, h4⟩ := h
  exact ⟨te, pe, tr, pr, h1, h2, Nat.lt_of_lt_of_le h3 hq, Nat.lt_of_lt_of_le h4 hq⟩
theorem entS_eq {s s1 s2 s3 s4 : RdS} {a b c : Nat} {d : List UInt8} (h1 : uintS 1099511627776 s = (s1, a)) (h2 : uintS 1099511627776 s1 = (s2, b)) (h3 : uintS 2 s2 = (s3, c)) (h4 : bytesS 4096 s3 = (s4, d)) : entS s = (s4, (a, b, c, d)) := by
  unfold entS; simp only [h1, h2, h3, h4]
theorem entD_eq {l : List UInt8} {s : RdS} {a b c : Nat} {d : List UInt8} (h : entS (l, 0) = (s, (a, b, c, d))) : entD l = if doneS s = 0 ∧ 1 ≤ a ∧ 1 ≤ b then some (a, b, c, d) else none := by
  unfold entD; simp only [h]
theorem own_cp {w : World} {base : Nat} {e : TypeId} {size n c : Nat} {A : Option Addr} {xs : List Value} (h : w.ownsRow base e size (.slice A n c) n xs) : n ≤ c ∧ c ≤ maxLen := by
  obtain ⟨A', c', e, h1, h2⟩ := own_form h
  injection e with e1 e2 e3
  subst e3
  exact ⟨h1, h2⟩
end Go.Proofs.YtmhaahcbmdhinaaGreatDoor
