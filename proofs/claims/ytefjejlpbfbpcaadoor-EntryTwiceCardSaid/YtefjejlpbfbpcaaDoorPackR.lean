/- The document's own numerals and what it lays behind bytes. -/
import Derived.Test.YtefjejlpbfbpcaaDoorPack
import Derived.Deep.LoopGhost
import Derived.Deep.DeepCutAuto
namespace Go.Proofs.YtefjejlpbfbpcaaDoor
open Go.RowKit
set_option maxRecDepth 100000
set_option linter.unusedVariables false
set_option linter.unusedSimpArgs false
/-- A piece of the digits' text. -/
def d10 : ByteArray := { data := #[48, 49, 50, 51, 52, 53, 54, 55, 56, 57] }
theorem d10_piece : ∀ i : Fin 10, d10.extract i (i + 1) = ⟨#[UInt8.ofNat (48 + i)]⟩ := by decide
theorem dig_step {u : Nat} (h : ¬ u < 10) : Lib.decDigits u = Lib.decDigits (u / 10) ++ [UInt8.ofNat (48 + u % 10)] := by
  rw [Lib.decDigits, dif_neg h]
set_option maxHeartbeats 1600000 in
theorem digits_any (u : Nat) (hu64 : u < 18446744073709551616) (w : World) :
    Calls Tryd.prog 56 #[.int .u64 u] w (StrPost w (dig u)) := by
  go_enter Tryd.func56, Tryd.ntmps56
  go_wp2_with fail
  go_loopg [0, 3] (u + 1) (fun m s0 s3 wr => ∃ (n : Nat) (S : ByteArray), n ≤ u ∧ m = n + (if S.data.toList = [] then 1 else 0) ∧ s0 = .int .u64 n ∧ s3 = .string S ∧ (if S.data.toList = [] then n = u else Lib.decDigits u = (if n = 0 then [] else Lib.decDigits n) ++ S.data.toList) ∧ wr = w)
  case atStart => exact ⟨u, ByteArray.empty, by omega, rfl, rfl, rfl, rfl, rfl⟩
  case round =>
    obtain ⟨n, S, hn, hm, rfl, rfl, hS, rfl⟩ := hrel
    have hsz : S.size ≤ 20 := by
      have e1 : S.size = S.data.toList.length := rfl
      have e2 := Lib.decDigits_length u
      have e3 := dig_size u hu64
      have e4 : (dig u).size = (Lib.decDigits u).length := rfl
      split at hS
      · rename_i h; rw [e1, h]; simp
      · have := congrArg List.length hS
        rw [List.length_append] at this
        omega
    have Hm := Lib.hid hm
    have HS := Lib.hid hS
    clear hm hS
    by_cases h0 : 0 < n
    · have h0I : (0 : Int) < n := by omega
      have hr0 : (0 : Int) ≤ (n : Int) % 10 := by omega
      have hr1 : (n : Int) % 10 < 10 := by omega
      go_wp2_with fail
      have hne : ({ data := #[48, 49, 50, 51, 52, 53, 54, 55, 56, 57] } : ByteArray).extract (n % 10) (n % 10 + 1) = ⟨#[UInt8.ofNat (48 + n % 10)]⟩ := d10_piece ⟨n % 10, by omega⟩
      have e1 : ((⟨#[UInt8.ofNat (48 + n % 10)]⟩ : ByteArray) ++ S).data.toList = UInt8.ofNat (48 + n % 10) :: S.data.toList := by simp [ByteArray.data_append]
      rw [hne]
      go_roundg (n / 10 + 0)
      case measure =>
        have := Hm.out
        split at this <;> omega
      case rel =>
        refine ⟨n / 10, _, by omega, by rw [e1, if_neg (by simp)], by push_cast; rfl, rfl, ?_, rfl⟩
        rw [e1, if_neg (by simp)]
        have hd : Lib.decDigits n = (if n / 10 = 0 then [] else Lib.decDigits (n / 10)) ++ [UInt8.ofNat (48 + n % 10)] := by
          by_cases hs : n < 10
          · rw [if_pos (by omega), Lib.decDigits_one hs, Nat.mod_eq_of_lt hs]; rfl
          · rw [if_neg (by omega), dig_step hs]
        have := HS.out
        split at this
        · rename_i h1
          rw [h1, ← this, hd]
        · rw [this, if_neg (by omega), hd]
          simp
    · obtain rfl : n = 0 := by omega
      by_cases hS0 : S.data.toList = []
      · have hq : S.toList.isEmpty = true := by rw [ByteArray.toList_eq, hS0]; rfl
        go_wp2_with fail
        have hu0 : 0 = u := by have := HS.out; rwa [if_pos hS0] at this
        have hne : ({ data := #[48, 49, 50, 51, 52, 53, 54, 55, 56, 57] } : ByteArray).extract 0 1 = ⟨#[UInt8.ofNat (48 + 0)]⟩ := d10_piece ⟨0, by omega⟩
        have e1 : ((⟨#[UInt8.ofNat (48 + 0)]⟩ : ByteArray) ++ S).data.toList = UInt8.ofNat (48 + 0) :: S.data.toList := by simp [ByteArray.data_append]
        rw [hne]
        go_roundg 0
        case measure => have := Hm.out; rw [if_pos hS0] at this; omega
        case rel =>
          refine ⟨0, _, by omega, by rw [e1, if_neg (by simp)], by push_cast; rfl, rfl, ?_, rfl⟩
          rw [e1, if_neg (by simp), if_pos rfl, hS0, ← hu0, Lib.decDigits_one (by omega)]
          rfl
      · have hq : S.toList.isEmpty = false := by rw [ByteArray.toList_eq]; simpa using hS0
        go_wp2_with fail
        go_ret
        refine ⟨?_, Below.refl _ _⟩
        have := HS.out
        rw [if_neg hS0] at this
        simp only [if_true, List.nil_append] at this
        unfold dig
        rw [this]
        rfl
theorem add_bytes (A : Option Addr) (n c : Nat) (l : List UInt8) (s : ByteArray) (w : World) {ok : Nat → Prop} (hr : Rd w ok 1 A n (bs l)) (hn : n + s.size ≤ 17592186044416) :
    Calls Tryd.prog 55 #[.slice A n c, .string s] w (fun e w' => ∃ A' n' c', e = .returned (.slice A' n' c') ∧ w'.ownsRow w.heap.size 5 1 (.slice A' n' c') n' (bs (l ++ s.data.toList)) ∧ Below w.heap.size w w') := by
  have Hr := Lib.hid hr
  clear hr
  go_enter Tryd.func55, Tryd.ntmps55
  go_wp2_with (first
    | (at_builtin; refine wpList_append_any (s := .tmp 6) (news := bs l) _ Tryd.underlying36 u8_elem rfl (by omega) rfl rfl rfl (World.ownsRow_nil w w.heap.size 5 1) rfl Hr.out (bs_one _) (by omega) (Nat.le_refl _) (Nat.zero_add _) (List.nil_append _) ?_; intro A1 c1 w1 hown1 hg1 hat1; have hz1 := hg1.size; clear hat1)
    | (at_builtin; refine wpList_append_str (sl := .tmp 9) _ Tryd.underlying36 Tryd.underlying9 u8_elem rfl rfl rfl hown1 rfl (by omega) hz1 rfl rfl ?_; intro A2 c2 w2 hown2 hg2))
  go_ret
  exact ⟨_, _, _, rfl, hown2, ((Below.refl _ _).grown hg1 (Nat.le_refl _) (by simp)).grown hg2 hz1 (fun q hq => (own_lt hown1 q hq).1)⟩
def LayR (W : World) (l : List UInt8) (e : Ending) (w' : World) : Prop := ∃ A n c, e = .returned (.slice A n c) ∧ w'.ownsRow W.heap.size 5 1 (.slice A n c) n (bs l) ∧ Below W.heap.size W w'
theorem str_list (s : ByteArray) (a b : List UInt8) : ((⟨a.toArray⟩ : ByteArray) ++ s ++ (⟨b.toArray⟩ : ByteArray)).data.toList = a ++ s.data.toList ++ b := by simp [ByteArray.data_append]
theorem LayR.up {w w1 w' : World} {l : List UInt8} {e : Ending} (hb : Below w.heap.size w w1) (h : ∃ A n c, e = .returned (.slice A n c) ∧ w'.ownsRow w1.heap.size 5 1 (.slice A n c) n (bs l) ∧ Below w1.heap.size w1 w') : LayR w l e w' := by
  obtain ⟨A, n, c, h1, h2, h3⟩ := h
  refine ⟨A, n, c, h1, ⟨h2.1, ?_⟩, hb.trans (h3.mono hb.size)⟩
  rcases h2.2 with hn | ⟨g, cap, cur, hv, hB, rest⟩
  · exact .inl hn
  · exact .inr ⟨g, cap, cur, hv, Nat.le_trans hb.size hB, rest⟩
set_option maxHeartbeats 800000 in
theorem uintR_any (A : Option Addr) (n c : Nat) (l : List UInt8) (u : Nat) (hu : u < 18446744073709551616) (w : World) (hr : Rd w T 1 A n (bs l)) (hn : n ≤ 8796093022208) :
    Calls Tryd.prog 46 #[.slice A n c, .int .u64 u] w (LayR w (l ++ uintL u)) := by
  have hd := dig_size u hu
  have hds := digits_any u hu w
  have es : ({ data := #[110] } ++ dig u ++ { data := #[59] } : ByteArray).data.toList = uintL u := by
    have := str_list (dig u) [110] [59]
    simp [uintL, dig]
  have hz : ({ data := #[110] } ++ dig u ++ { data := #[59] } : ByteArray).size ≤ 22 := by
    have e1 : ({ data := #[110] } ++ dig u ++ { data := #[59] } : ByteArray).size = (uintL u).length := by rw [← es]; rfl
    have e2 : (dig u).size = (Lib.decDigits u).length := rfl
    rw [e1]
    simp [uintL]
    omega
  have hadd : ∀ w1, Below w.heap.size w w1 → Calls Tryd.prog 55 #[.slice A n c, .string ({ data := #[110] } ++ dig u ++ { data := #[59] })] w1 (LayR w (l ++ uintL u)) := fun w1 hb => (add_bytes A n c l _ w1 (hr.below hb) (by omega)).mono fun e w' h => LayR.up hb (by rw [es] at h; exact h)
  have Hds := Lib.hid hds
  have Hadd := Lib.hid hadd
  clear hds hadd hr es hz
  go_enter Tryd.func46, Tryd.ntmps46
  go_wp2_with fail
  refine Hds.out.mono ?_
  rintro e w1 ⟨rfl, hb⟩
  go_wp2_with fail
  refine (Hadd.out _ hb).mono ?_
  rintro e w2 ⟨A2, n2, c2, rfl, h2, hb2⟩
  go_wp2_with fail
  go_ret
  exact ⟨_, _, _, rfl, h2, hb2⟩
set_option maxHeartbeats 1600000 in
theorem bytesR_any (A : Option Addr) (n c : Nat) (l : List UInt8) (D : Option Addr) (nd cd : Nat) (d : List UInt8) (w : World) (hr : Rd w T 1 A n (bs l)) (hn : n ≤ 8796093022208) (hdr : Rd w T 1 D nd (bs d)) (hnd : nd ≤ 1099511627776) :
    Calls Tryd.prog 45 #[.slice A n c, .slice D nd cd] w (LayR w (l ++ bytesL d)) := by
  have hdn : d.length = nd := hdr.blen
  have hd := dig_size nd (by omega)
  have es : ({ data := #[98] } ++ dig nd ++ { data := #[58] } ++ ⟨d.toArray⟩ : ByteArray).data.toList = bytesL d := by
    have := str_list (dig nd) [98] [58]
    rw [ByteArray.data_append, Array.toList_append]
    have e2 : ({ data := #[98] } ++ dig nd ++ { data := #[58] } : ByteArray).data.toList = [98] ++ (dig nd).data.toList ++ [58] := this
    rw [e2]
    simp [bytesL, dig, hdn]
  have hz : ({ data := #[98] } ++ dig nd ++ { data := #[58] } ++ ⟨d.toArray⟩ : ByteArray).size ≤ 22 + nd := by
    have e1 : ({ data := #[98] } ++ dig nd ++ { data := #[58] } ++ ⟨d.toArray⟩ : ByteArray).size = (bytesL d).length := by rw [← es]; rfl
    have e2 : (dig nd).size = (Lib.decDigits nd).length := rfl
    rw [e1]
    simp [bytesL, hdn]
    omega
  obtain ⟨S, hS⟩ : ∃ S, S = ({ data := #[98] } ++ dig nd ++ { data := #[58] } ++ ⟨d.toArray⟩ : ByteArray) := ⟨_, rfl⟩
  have hadd : ∀ w1, Below w.heap.size w w1 → Calls Tryd.prog 55 #[.slice A n c, .string S] w1 (LayR w (l ++ bytesL d)) := fun w1 hb => (add_bytes A n c l _ w1 (hr.below hb) (by rw [hS]; omega)).mono fun e w' h => LayR.up hb (by rw [hS, es] at h; exact h)
  have sof : ∀ W, Below w.heap.size w W → (Below w.heap.size w W ∧ (convert 36 9 (.slice D nd cd)).run Tryd.prog W = .ok (.string ⟨d.toArray⟩) W) := fun W hb => ⟨hb, conv_bytes _ _ _ Tryd.underlying36 Tryd.underlying5 Tryd.underlying9 (hdr.below hb)⟩
  have s0 := sof _ (Below.refl _ _)
  have hds : ∀ W, Below w.heap.size w W → Calls Tryd.prog 56 #[.int .u64 nd] W (fun e w' => e = .returned (.string (dig nd)) ∧ Below w.heap.size w w') := fun W hb => (digits_any nd (by omega) W).mono (by
    rintro e w' ⟨rfl, h⟩
    exact ⟨rfl, hb.trans (h.mono hb.size)⟩)
  have hadd' : ∀ W, Below w.heap.size w W → Calls Tryd.prog 55 #[.slice A n c, .string S] W (LayR w (l ++ bytesL d)) := fun W hb => hadd W hb
  have wn : IntKind.u64.wrap (nd : Int) = (nd : Int) := by rw [IntKind.wrap_u64]; omega
  have z1 : (ByteArray.size { data := #[98] }) = 1 := rfl
  have z2 : (ByteArray.size { data := #[58] }) = 1 := rfl
  have z3 : (ByteArray.size ⟨d.toArray⟩) = d.length := by simp [ByteArray.size]
  have b5 : ∀ W : World, (Op.stringOp .add { data := #[98] } (dig nd)).run Tryd.prog W = .ok (.string ({ data := #[98] } ++ dig nd)) W := fun W => run_string_add_sum _ _ _ (by omega)
  have b6 : ∀ W : World, (Op.stringOp .add ({ data := #[98] } ++ dig nd) { data := #[58] }).run Tryd.prog W = .ok (.string ({ data := #[98] } ++ dig nd ++ { data := #[58] })) W := fun W => run_string_add_sum _ _ _ (by rw [ByteArray.size_append]; omega)
  have b9 : ∀ W : World, (Op.stringOp .add ({ data := #[98] } ++ dig nd ++ { data := #[58] }) ⟨d.toArray⟩).run Tryd.prog W = .ok (.string S) W := fun W => by rw [hS]; exact run_string_add_sum _ _ _ (by rw [ByteArray.size_append, ByteArray.size_append]; omega)
  clear z1 z2 z3
  have Hds := Lib.hid hds
  have Hadd := Lib.hid hadd
  have HS := Lib.hid hS
  clear hds hadd hadd' hr es hz hdr hS hdn
  go_enter Tryd.func45, Tryd.ntmps45
  go_upto_region 1 with (fail)
  go_split_ands
  go_region_held3 (fun W => Below w.heap.size w W ∧ (convert 36 9 (.slice D nd cd)).run Tryd.prog W = .ok (.string ⟨d.toArray⟩) W) ((refine sof _ ?_; first | exact (Below.refl _ _).drew | (go_split_ands; assumption))) (first
    | ((with_reducible refine (Hds.out _ (by go_split_ands; assumption)).mono ?_); rintro e w1 ⟨rfl, k1⟩)
    | (refine (Hadd.out _ (by go_split_ands; assumption)).mono ?_; rintro e w2 ⟨A2, n2, c2, rfl, h2, hb2⟩))
  all_goals
    go_wp2_with fail
    go_ret
    exact ⟨_, _, _, rfl, h2, hb2⟩
end Go.Proofs.YtefjejlpbfbpcaaDoor
