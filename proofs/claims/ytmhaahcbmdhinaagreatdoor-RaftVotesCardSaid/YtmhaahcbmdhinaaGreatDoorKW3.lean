/- Walks: members as bytes, of both.
   Plain law of reading packed things: no program in sight.
   Contracts of the library's sort and compaction at this dump: laid by the kit's own commands in plain words.
   A pack.Reader of the call's own: what it reads; its acts up to the digits.
   A pack.Reader: the letter, the digits. -/
import Derived.Test.YtmhaahcbmdhinaaGreatDoorKW2
import Derived.Test.YtmhaahcbmdhinaaGreatDoorKW0
import Derived.Lib.ParseIntBCases
import Derived.Shelf.Small.Bits
import Derived.Shelf.Strconv.Itoa0
import Derived.Shelf.Strconv.Itoa1
import Derived.Shelf.LaysM
import Derived.Shelf.Strconv.Itoa2
import Derived.Shelf.Strconv.Itoa3
import Derived.Ground.MpProg
import Derived.Shelf.Pu.ParseUintPublic10
import Derived.Shelf.Pu.ErrVarParseUint
import Derived.Shelf.Sort.Plain
import Derived.Shelf.Slices.In.SortNone
import Derived.Ground.SlgfProg
import Derived.Shelf.SlicesE.IndexFunc
import Derived.Test.YtmhaahcbmdhinaaGreatDoorProg
import Derived.Test.YtmhaahcbmdhinaaGreatDoorKW1
import Derived.WalkMore
import Derived.Deep.LoopGhost
import Derived.Deep.DeepCutAuto
import Derived.Lib.ConvBytes
import Derived.Lib.AtoiErrMem
namespace Go.Proofs.YtmhaahcbmdhinaaGreatDoor
open Go.RowKit
set_option maxRecDepth 100000
set_option linter.unusedVariables false
set_option linter.unusedSimpArgs false
/-- A number as what is laid of it. -/
def uN (z : Int) : Nat := (IntKind.u64.wrap z).toNat
theorem uN_eq (z : Int) : IntKind.u64.wrap z = (uN z : Int) := by unfold uN; rw [IntKind.wrap_u64]; omega
theorem uN_lt (z : Int) : uN z < 18446744073709551616 := by unfold uN; rw [IntKind.wrap_u64]; omega
def confF (l : List Int) : List UInt8 := (l.map fun z => uintL (uN z)).flatten
def confL (l : List Int) : List UInt8 := uintL l.length ++ confF l
theorem uintL_le (u : Nat) (hu : u < 18446744073709551616) : (uintL u).length ≤ 22 := by
  have h := dig_size u hu
  have : (Lib.decDigits u).length ≤ 20 := h
  simp [uintL]
  omega
theorem confF_le : ∀ (l : List Int), (confF l).length ≤ 22 * l.length
  | [] => by simp [confF]
  | z :: l => by
    have := confF_le l
    have h2 := uintL_le (uN z) (uN_lt z)
    simp only [confF, List.map_cons, List.flatten_cons, List.length_append, List.length_cons] at this ⊢
    omega
theorem confF_snoc (l : List Int) (z : Int) : confF (l ++ [z]) = confF l ++ uintL (uN z) := by simp [confF]
set_option maxHeartbeats 1600000 in
theorem cenc_any (A : Option Addr) (n c : Nat) (l : List Int) (w : World) {ok : Nat → Prop} (hr : Rd w ok 1 A n (ii l)) (hn : n ≤ 1000000) (htab : TabW w) :
    Calls Tryz.prog 75 #[.slice A n c] w (LayR w (confL l)) := by
  have hl := ii_len hr
  have hwn : IntKind.u64.wrap (n : Int) = (n : Int) := by rw [IntKind.wrap_u64]; omega
  have r0 := (hr.lt (by omega)).mono fun b hb => hb.2
  have huint : ∀ W L (u : Nat), Below w.heap.size w W → Wr W w.heap.size w.heap.size L → u < 18446744073709551616 → L.length ≤ 100000000 → Calls Tryz.prog 138 #[.pointer (some ⟨w.heap.size, 0, none⟩), .int .u64 (u : Int)] W (fun e w' => e = .returned (.pointer (some ⟨w.heap.size, 0, none⟩)) ∧ Wr w' w.heap.size w.heap.size (L ++ uintL u) ∧ Below w.heap.size w w') := fun W L u hb h hu hL => (uint_any _ _ _ u hu W h (by omega) (htab.below hb (Nat.le_refl _)) hb.size).mono (by
    rintro e w' ⟨rfl, h, h2⟩
    exact ⟨rfl, h, hb.trans h2⟩)
  have Huint := Lib.hid huint
  have Hl := Lib.hid hl
  have Htab := Lib.hid htab
  clear huint htab hl
  go_enter Tryz.func75, Tryz.ntmps75
  go_wp2_with fail
  refine (new_any w).mono ?_
  rintro e w1 ⟨rfl, g1, hb1⟩
  go_wp2_with fail
  refine (Huint.out w1 [] n hb1 g1 (by omega) (by simp)).mono ?_
  rintro e w2 ⟨rfl, g2, hb2⟩
  have g2' : Wr w2 w.heap.size w.heap.size (uintL l.length ++ confF (l.take 0)) := by
    rw [List.nil_append] at g2
    simpa [confF, Hl.out] using g2
  clear g1 hb1 g2
  have hlen0 := uintL_le l.length (by rw [Hl.out]; omega)
  have Hlen0 := Lib.hid hlen0
  clear hlen0
  go_wp2_with fail
  go_loopg [5, 13] n (fun m s5 s13 wr => ∃ j : Nat, m = n - j ∧ j ≤ n ∧ s13 = .int .i64 j ∧ Wr wr w.heap.size w.heap.size (uintL l.length ++ confF (l.take j)) ∧ Below w.heap.size w wr)
  case atStart => exact ⟨0, by omega, by omega, rfl, g2', hb2⟩
  case round =>
    obtain ⟨j, hm, hj, rfl, hW, hb⟩ := hrel
    have Hm := Lib.hid hm
    have HWr := Lib.hid hW
    clear hm hW
    by_cases hlt : j < n
    · obtain ⟨b, o, x, rfl, hob, _, hx, hc⟩ := ii_cell (r0.below (hb.mono (Nat.le_refl _))) hlt
      have Hx := Lib.hid hx
      clear hx
      have hltI : (j : Int) < n := by omega
      have hux := uN_eq x
      have hbd : (uintL l.length ++ confF (l.take j)).length ≤ 100000000 := by
        have h1 := confF_le (l.take j)
        have h2 := Hlen0.out
        rw [List.length_take] at h1
        rw [List.length_append]
        omega
      have Hbd := Lib.hid hbd
      clear hbd
      go_wp2_with fail
      refine (Huint.out _ _ (uN x) hb HWr.out (uN_lt x) Hbd.out).mono ?_
      rintro e w3 ⟨rfl, g3, hb3⟩
      have g3' : Wr w3 w.heap.size w.heap.size (uintL l.length ++ confF (l.take (j + 1))) := by
        rw [List.take_add_one, Hx.out, Option.toList_some, confF_snoc, ← List.append_assoc]
        exact g3
      clear g3
      go_wp2_with fail
      go_roundg (n - (j + 1))
      case measure => have := Hm.out; omega
      case rel => exact ⟨j + 1, rfl, by omega, by go_num, g3', hb3⟩
    · obtain rfl : j = n := by omega
      have hW2 : Wr wr w.heap.size w.heap.size (confL l) := by
        have := HWr.out
        rwa [List.take_of_length_le (Nat.le_of_eq Hl.out)] at this
      have hbd : (confL l).length ≤ 17592186044416 := by
        have h1 := confF_le l
        have h2 := Hlen0.out
        have h3 := Hl.out
        unfold confL
        rw [List.length_append]
        omega
      have hd := done_any _ _ _ wr hW2 hbd
      have Hd := Lib.hid hd
      clear hd hbd hW2
      go_wp2_with fail
      refine Hd.out.mono ?_
      rintro e w3 ⟨A3, c3, rfl, o3, hb3⟩
      go_wp2_with fail
      go_ret
      refine ⟨_, _, _, rfl, ?_, hb.trans (hb3.mono hb.size)⟩
      refine ⟨o3.1, ?_⟩
      rcases o3.2 with h1 | ⟨g, cap, cur, h1, h2, h4⟩
      · exact .inl h1
      · exact .inr ⟨g, cap, cur, h1, Nat.le_trans hb.size h2, h4⟩
theorem own_dn {W : World} {B B' : Nat} {e : TypeId} {size n m c : Nat} {A : Option Addr} {xs : List Value} (ho : W.ownsRow B e size (.slice A n c) m xs) (hB : B' ≤ B) : W.ownsRow B' e size (.slice A n c) m xs := by
  refine ⟨ho.1, ?_⟩
  rcases ho.2 with h1 | ⟨g, cap, cur, h1, h2, h4⟩
  · exact .inl h1
  · exact .inr ⟨g, cap, cur, h1, Nat.le_trans hB h2, h4⟩
end Go.Proofs.YtmhaahcbmdhinaaGreatDoor

namespace Go.Proofs.YtmhaahcbmdhinaaGreatDoor
set_option linter.unusedVariables false
set_option linter.unusedSimpArgs false
def isDig (c : UInt8) : Bool := decide (48 ≤ c.toNat) && decide (c.toNat ≤ 57)
/-- What the digits ahead of a sign tell: an error's number, or the number and how many digits there are. -/
def dnum (ds : List UInt8) : Int ⊕ (Nat × Nat) :=
  match Lib.parseUintB 64 ds with
  | .ok u => if ds.head? = some 48 ∧ 1 < ds.length then .inl 3 else .inr (u, ds.length)
  | _ => .inl 3
/-- The digits up to a sign; acc: those that were read. -/
def dscan (sign : UInt8) (acc : List UInt8) : List UInt8 → Int ⊕ (Nat × Nat)
  | [] => .inl 12
  | c :: r => if c = sign then dnum acc else if isDig c = false ∨ 20 ≤ acc.length then .inl 3 else dscan sign (acc ++ [c]) r
/-- A letter, digits, a sign. -/
def pnum (letter sign : UInt8) : List UInt8 → Int ⊕ (Nat × Nat)
  | [] => .inl 12
  | c :: r => if c = letter then dscan sign [] r else .inl 3
/-- What a reader is: what is left, the first error's number. -/
abbrev RdS := List UInt8 × Int
def numS (letter sign : UInt8) (s : RdS) : RdS × Option (Nat × Nat) :=
  if s.2 ≠ 0 then (s, none) else match pnum letter sign s.1 with
    | .inl e => ((s.1, e), none)
    | .inr (n, k) => (s, some (n, k + 2))
def boundS (most : Nat) (s : RdS) : RdS × Option (Nat × Nat) :=
  match numS 110 59 s with
  | (s', none) => (s', none)
  | (s', some (n, k)) => if most < n then ((s'.1, 4), none) else (s', some (n, k))
def uintS (most : Nat) (s : RdS) : RdS × Nat :=
  match boundS most s with
  | (s', none) => (s', 0)
  | (s', some (n, k)) => ((s'.1.drop k, s'.2), n)
def countS (most : Nat) (s : RdS) : RdS × Nat :=
  match boundS most s with
  | (s', none) => (s', 0)
  | (s', some (n, k)) => if s'.1.length - k < n then ((s'.1, 2), 0) else ((s'.1.drop k, s'.2), n)
def bytesS (most : Nat) (s : RdS) : RdS × List UInt8 :=
  match numS 98 58 s with
  | (s', none) => (s', [])
  | (s', some (n, k)) => if most < n then ((s'.1, 2), []) else if s'.1.length - k < n then ((s'.1, 12), []) else ((s'.1.drop (k + n), s'.2), (s'.1.drop k).take n)
def doneS (s : RdS) : Int := if s.2 = 0 ∧ s.1 ≠ [] then 3 else s.2
theorem dscan_len {sign : UInt8} : ∀ {l acc : List UInt8} {n k : Nat}, acc.length ≤ 20 → dscan sign acc l = .inr (n, k) → acc.length ≤ k ∧ k + 1 ≤ acc.length + l.length ∧ n < 18446744073709551616 ∧ k ≤ 20 := by
  intro l
  induction l with
  | nil => intro acc n k _ h; cases h
  | cons c r ih =>
    intro acc n k ha h
    rw [dscan] at h
    split at h
    · unfold dnum at h
      split at h
      · rename_i u hu
        split at h
        · cases h
        · injection h with h
          injection h with h1 h2
          subst h1 h2
          have := Lib.parseUintB_le hu
          exact ⟨Nat.le_refl _, by simp, by omega, ha⟩
      · cases h
    · split at h
      · cases h
      · rename_i h1
        have h2 : acc.length < 20 := by
          refine Nat.lt_of_not_le fun hh => h1 (.inr hh)
        have := ih (by simp; omega) h
        simp only [List.length_append, List.length_cons, List.length_nil] at this ⊢
        omega
end Go.Proofs.YtmhaahcbmdhinaaGreatDoor

namespace Go.Proofs
open Go.Shelf
def Tryz.laysPu14_ren : Go.Shelf.Ren := ⟨fun | 14 => 255 | 16 => 260 | 17 => 261 | 19 => 262 | 20 => 263 | 21 => 264 | 22 => 265 | 23 => 266 | 24 => 267 | 25 => 268 | 27 => 217 | 26 => 269 | 28 => 236 | 29 => 249 | 30 => 238 | 31 => 239 | 32 => 240 | 33 => 241 | 35 => 234 | 34 => 250 | 36 => 251 | 37 => 252 | 38 => 253 | 39 => 257 | 40 => 258 | n => n, fun | 9 => 9 | 3 => 3 | 22 => 214 | 24 => 33 | 25 => 348 | 4 => 4 | 34 => 356 | 5 => 5 | 36 => 82 | 37 => 26 | 0 => 0 | 39 => 359 | 21 => 21 | 44 => 364 | 47 => 365 | 50 => 368 | 48 => 366 | 2 => 2 | 52 => 330 | 55 => 332 | 59 => 345 | 60 => 327 | 20 => 20 | 61 => 346 | 65 => 354 | 66 => 355 | 67 => 369 | n => n, fun | 0 => 4 | 1 => 5 | 2 => 1 | 3 => 2 | 4 => 3 | n => n⟩
theorem Tryz.laysPu14 : Go.Proofs.LaysPu.n14 Tryz.prog Tryz.laysPu14_ren := {
  mixed := by kernel_rfl
  f14 := Tryz.func255.trans (congrArg some (by kernel_rfl))
  f16 := Tryz.func260.trans (congrArg some (by kernel_rfl))
  f17 := Tryz.func261.trans (congrArg some (by kernel_rfl))
  f19 := Tryz.func262.trans (congrArg some (by kernel_rfl))
  f20 := Tryz.func263.trans (congrArg some (by kernel_rfl))
  f21 := Tryz.func264.trans (congrArg some (by kernel_rfl))
  f22 := Tryz.func265.trans (congrArg some (by kernel_rfl))
  f23 := Tryz.func266.trans (congrArg some (by kernel_rfl))
  f24 := Tryz.func267.trans (congrArg some (by kernel_rfl))
  f25 := Tryz.func268.trans (congrArg some (by kernel_rfl))
  f26 := Tryz.func269.trans (congrArg some (by kernel_rfl))
  f27 := Tryz.func217.trans (congrArg some (by kernel_rfl))
  f28 := Tryz.func236.trans (congrArg some (by kernel_rfl))
  f29 := Tryz.func249.trans (congrArg some (by kernel_rfl))
  f30 := Tryz.func238.trans (congrArg some (by kernel_rfl))
  f31 := Tryz.func239.trans (congrArg some (by kernel_rfl))
  f32 := Tryz.func240.trans (congrArg some (by kernel_rfl))
  f33 := Tryz.func241.trans (congrArg some (by kernel_rfl))
  f34 := Tryz.func250.trans (congrArg some (by kernel_rfl))
  f35 := Tryz.func234.trans (congrArg some (by kernel_rfl))
  f36 := Tryz.func251.trans (congrArg some (by kernel_rfl))
  f37 := Tryz.func252.trans (congrArg some (by kernel_rfl))
  f38 := Tryz.func253.trans (congrArg some (by kernel_rfl))
  f39 := Tryz.func257.trans (congrArg some (by kernel_rfl))
  f40 := Tryz.func258.trans (congrArg some (by kernel_rfl))
  t0 := Tryz.underlying0
  a0 := Tryz.isAgg0
  z0 := Tryz.sizeOf0
  v0 := Tryz.zeroValue0
  i0 := by kernel_rfl
  t2 := Tryz.underlying2
  a2 := Tryz.isAgg2
  z2 := Tryz.sizeOf2
  v2 := Tryz.zeroValue2
  i2 := by kernel_rfl
  t3 := Tryz.underlying3
  a3 := Tryz.isAgg3
  z3 := Tryz.sizeOf3
  v3 := Tryz.zeroValue3
  i3 := by kernel_rfl
  t4 := Tryz.underlying4
  a4 := Tryz.isAgg4
  z4 := Tryz.sizeOf4
  v4 := Tryz.zeroValue4
  i4 := by kernel_rfl
  t5 := Tryz.underlying5
  a5 := Tryz.isAgg5
  z5 := Tryz.sizeOf5
  v5 := Tryz.zeroValue5
  i5 := by kernel_rfl
  t9 := Tryz.underlying9
  a9 := Tryz.isAgg9
  z9 := Tryz.sizeOf9
  v9 := Tryz.zeroValue9
  i9 := by kernel_rfl
  t20 := Tryz.underlying20
  a20 := Tryz.isAgg20
  z20 := Tryz.sizeOf20
  v20 := Tryz.zeroValue20
  i20 := by kernel_rfl
  t21 := Tryz.underlying21
  a21 := Tryz.isAgg21
  z21 := Tryz.sizeOf21
  v21 := Tryz.zeroValue21
  i21 := by kernel_rfl
  t22 := Tryz.underlying214
  a22 := Tryz.isAgg214
  z22 := Tryz.sizeOf214
  v22 := Tryz.zeroValue214
  i22 := by kernel_rfl
  t24 := Tryz.underlying33
  a24 := Tryz.isAgg33
  z24 := Tryz.sizeOf33
  v24 := Tryz.zeroValue33
  i24 := by kernel_rfl
  t25 := Tryz.underlying348
  a25 := Tryz.isAgg348
  z25 := Tryz.sizeOf348
  v25 := Tryz.zeroValue348
  i25 := by kernel_rfl
  t34 := Tryz.underlying356
  a34 := Tryz.isAgg356
  z34 := Tryz.sizeOf356
  v34 := Tryz.zeroValue356
  i34 := by kernel_rfl
  c34 := by kernel_rfl
  t36 := Tryz.underlying82
  a36 := Tryz.isAgg82
  z36 := Tryz.sizeOf82
  v36 := Tryz.zeroValue82
  i36 := by kernel_rfl
  t37 := Tryz.underlying26
  a37 := Tryz.isAgg26
  z37 := Tryz.sizeOf26
  v37 := Tryz.zeroValue26
  i37 := by kernel_rfl
  t39 := Tryz.underlying359
  a39 := Tryz.isAgg359
  z39 := Tryz.sizeOf359
  v39 := Tryz.zeroValue359
  i39 := by kernel_rfl
  t44 := Tryz.underlying364
  a44 := Tryz.isAgg364
  z44 := Tryz.sizeOf364
  v44 := Tryz.zeroValue364
  i44 := by kernel_rfl
  t47 := Tryz.underlying365
  a47 := Tryz.isAgg365
  z47 := Tryz.sizeOf365
  v47 := Tryz.zeroValue365
  i47 := by kernel_rfl
  t48 := Tryz.underlying366
  a48 := Tryz.isAgg366
  z48 := Tryz.sizeOf366
  v48 := Tryz.zeroValue366
  i48 := by kernel_rfl
  t50 := Tryz.underlying368
  a50 := Tryz.isAgg368
  z50 := Tryz.sizeOf368
  v50 := Tryz.zeroValue368
  i50 := by kernel_rfl
  t52 := Tryz.underlying330
  a52 := Tryz.isAgg330
  z52 := Tryz.sizeOf330
  v52 := Tryz.zeroValue330
  i52 := by kernel_rfl
  t55 := Tryz.underlying332
  a55 := Tryz.isAgg332
  z55 := Tryz.sizeOf332
  v55 := Tryz.zeroValue332
  i55 := by kernel_rfl
  t59 := Tryz.underlying345
  a59 := Tryz.isAgg345
  z59 := Tryz.sizeOf345
  v59 := Tryz.zeroValue345
  i59 := by kernel_rfl
  t60 := Tryz.underlying327
  a60 := Tryz.isAgg327
  z60 := Tryz.sizeOf327
  v60 := Tryz.zeroValue327
  i60 := by kernel_rfl
  t61 := Tryz.underlying346
  a61 := Tryz.isAgg346
  z61 := Tryz.sizeOf346
  t65 := Tryz.underlying354
  a65 := Tryz.isAgg354
  z65 := Tryz.sizeOf354
  v65 := Tryz.zeroValue354
  i65 := by kernel_rfl
  t66 := Tryz.underlying355
  a66 := Tryz.isAgg355
  z66 := Tryz.sizeOf355
  v66 := Tryz.zeroValue355
  i66 := by kernel_rfl
  t67 := Tryz.underlying369
  a67 := Tryz.isAgg369
  z67 := Tryz.sizeOf369
  v67 := Tryz.zeroValue369
  i67 := by kernel_rfl
  g0 := by kernel_rfl
  m0 := by kernel_rfl
  g1 := by kernel_rfl
  m1 := by kernel_rfl
  g2 := by kernel_rfl
  m2 := by kernel_rfl
  g3 := by kernel_rfl
  m3 := by kernel_rfl
  g4 := by kernel_rfl
  m4 := by kernel_rfl }
open Go.RowKit in
/-- strconv.ParseUint(s, 10, 64), AT EVERY STRING THAT SPELLS A uint64 ('Lib.parseUintB 64 s.data.toList = .ok u'): u, AND NO ERROR. (LAID: no walk: one application.) -/
theorem Tryz.strconv_ParseUint_10_at64_ok (s : ByteArray) (hmax : s.size ≤ 9223372036854775806) (u : Nat) (h : Lib.parseUintB 64 s.data.toList = .ok u) (w : World) :
    Calls Tryz.prog 255 #[.string s, .int .i64 10, .int .i64 64] w fun e w' => e = .returned (.tuple #[.int .u64 u, .nilIface]) ∧ (w' = w ∨ w' = Lib.bytesWorld w 5 s) := Any.strconv_ParseUint_10_at64_ok Tryz.laysPu14 s hmax u h w
open Go.RowKit in
/-- strconv.ParseUint(s, 10, 64), AT EVERY STRING THAT IS NO ROW OF DECIMAL DIGITS (a sign is a fault): 0, AND AN ERROR THAT IS NOT nil: a *NumError in a new block N: {Func: "ParseUint", Num: s's bytes, Err: what the variable ErrSyntax holds}. Of what was there nothing has turned. (LAID: no walk: one application.) -/
theorem Tryz.strconv_ParseUint_10_at64_syntax (s : ByteArray) (hlim : s.size ≤ 281474976710656) (h : Lib.parseUintB 64 s.data.toList = Lib.parseUintB 64 []) (ev : Value) (w : World) (hv : w.cell? ⟨4, 0, none⟩ = some ev) (hev : ev = .nilIface ∨ ∃ te pe, ev = .iface te pe) :
    Calls Tryz.prog 255 #[.string s, .int .i64 10, .int .i64 64] w fun e w' => ∃ N, e = .returned (.tuple #[.int .u64 0, .iface 359 (.pointer (some ⟨N, 0, none⟩))]) ∧ w.heap.size ≤ N ∧ w'.heap[N]? = some (.cells #[.string ⟨#[80, 97, 114, 115, 101, 85, 105, 110, 116]⟩, .string s, ev] 364 (0, 0)) ∧ Below w.heap.size w w' := Any.strconv_ParseUint_10_at64_syntax Tryz.laysPu14 s hlim (h.trans (if_pos rfl)) ev w hv hev
open Go.RowKit in
/-- strconv.ParseUint(s, 10, 64), AT EVERY NUMERAL THAT NO uint64 HOLDS: THE GREATEST uint64, AND AN ERROR THAT IS NOT nil: a *NumError in a new block N: {Func: "ParseUint", Num: s's bytes, Err: what the variable ErrRange holds}. Of what was there nothing has turned. (LAID: no walk: one application.) -/
theorem Tryz.strconv_ParseUint_10_at64_range (s : ByteArray) (hlim : s.size ≤ 281474976710656) (h : Lib.parseUintB 64 s.data.toList = .range) (ev : Value) (w : World) (hv : w.cell? ⟨5, 0, none⟩ = some ev) (hev : ev = .nilIface ∨ ∃ te pe, ev = .iface te pe) :
    Calls Tryz.prog 255 #[.string s, .int .i64 10, .int .i64 64] w fun e w' => ∃ N, e = .returned (.tuple #[.int .u64 18446744073709551615, .iface 359 (.pointer (some ⟨N, 0, none⟩))]) ∧ w.heap.size ≤ N ∧ w'.heap[N]? = some (.cells #[.string ⟨#[80, 97, 114, 115, 101, 85, 105, 110, 116]⟩, .string s, ev] 364 (0, 0)) ∧ Below w.heap.size w w' := Any.strconv_ParseUint_10_at64_range Tryz.laysPu14 s hlim h ev w hv hev
end Go.Proofs

namespace Go.Proofs.YtmhaahcbmdhinaaGreatDoor
open Go.RowKit
set_option maxRecDepth 100000
set_option linter.unusedVariables false
set_option linter.unusedSimpArgs false
def errE (k : Int) : Value := if k = 0 then .nilIface else .iface 105 (.int .i64 k)
theorem errE0 : errE 0 = .nilIface := rfl
theorem errE_ne {k : Int} (h : k ≠ 0) : errE k = .iface 105 (.int .i64 k) := if_neg h
/-- The library's two errors lie in their variables. -/
def EvW (W : World) (p : Nat) : Prop := ∃ te pe tr pr, W.cell? ⟨4, 0, none⟩ = some (.iface te pe) ∧ W.cell? ⟨5, 0, none⟩ = some (.iface tr pr) ∧ 4 < p ∧ 5 < p
theorem EvW.below {W W' : World} {p B : Nat} (h : EvW W p) (hb : Below B W W') (hB : p ≤ B) : EvW W' p := by
  obtain ⟨te, pe, tr, pr, h1, h2, h3, h4⟩ := h
  exact ⟨te, pe, tr, pr, (hb.cell (p := ⟨4, 0, none⟩) (Nat.lt_of_lt_of_le h3 hB)).trans h1, (hb.cell (p := ⟨5, 0, none⟩) (Nat.lt_of_lt_of_le h4 hB)).trans h2, h3, h4⟩
/-- Block p is a reader. -/
structure Rr (W : World) (p : Nat) (s : RdS) : Prop where
  ex : ∃ A n c, W.heap[p]? = some (.cells #[.slice A n c, errE s.2] 306 (0, 0)) ∧ Rd W (· < p) 1 A n (bs s.1) ∧ n ≤ c ∧ c ≤ maxLen
  ev : EvW W p
/-- Nothing that was there turns, but block p. -/
def RdPost (W : World) (p : Nat) (s : RdS) (v : Value) (e : Ending) (w' : World) : Prop := e = .returned v ∧ Rr w' p s ∧ W.grownBy w' (some p)
theorem gb_below {W W' : World} {p : Nat} (h : W.grownBy W' (some p)) (hp : p < W.heap.size) : Below p W W' := ⟨h.os, h.tape, h.output, h.size, fun i hi => h.block i (by omega) (fun e => by injection e; omega)⟩
theorem Rr.cells {W : World} {p : Nat} {s : RdS} (h : Rr W p s) : ∃ A n c, W.cell? ⟨p, 0, none⟩ = some (.slice A n c) ∧ W.cell? ⟨p, 1, none⟩ = some (errE s.2) ∧ W.frozen? ⟨p, 0, none⟩ = false ∧ W.frozen? ⟨p, 1, none⟩ = false ∧ Rd W (· < p) 1 A n (bs s.1) ∧ n ≤ c ∧ c ≤ maxLen := by
  obtain ⟨A, n, c, h1, h2, h3, h4⟩ := h.ex
  exact ⟨A, n, c, cell_of_row W p 0 _ _ (0, 0) h1, cell_of_row W p 1 _ _ (0, 0) h1, by simp [World.frozen?, h1], by simp [World.frozen?, h1], h2, h3, h4⟩
theorem Rr.lt {W : World} {p : Nat} {s : RdS} (h : Rr W p s) : p < W.heap.size := by
  obtain ⟨A, n, c, h1, _⟩ := h.ex
  exact (Array.getElem?_eq_some_iff.1 h1).1
theorem gb_set (W : World) (p i : Nat) (v : Value) : W.grownBy (W.setCell ⟨p, i, none⟩ v) (some p) :=
  ⟨rfl, rfl, rfl, by simp [World.setCell], fun k _ hk => Below.heap_setCell _ _ _ k (fun e => hk (by rw [e]))⟩
theorem EvW.set {W : World} {p q : Nat} (h : EvW W p) (hq : p ≤ q) (i : Nat) (v : Value) : EvW (W.setCell ⟨q, i, none⟩ v) p :=
  h.below ((Below.refl p W).setCell (p := ⟨q, i, none⟩) hq v) (Nat.le_refl _)
theorem Rr.err {W : World} {p : Nat} {s : RdS} (h : Rr W p s) (k : Int) : Rr (W.setCell ⟨p, 1, none⟩ (errE k)) p (s.1, k) := by
  obtain ⟨A, n, c, h1, h2, h3⟩ := h.ex
  exact ⟨⟨A, n, c, by simp [World.setCell, Array.getElem?_modify, h1], h2.setCell (p := ⟨p, 1, none⟩) (Nat.lt_irrefl p) _, h3⟩, h.ev.set (Nat.le_refl _) _ _⟩
theorem Rr.to {W : World} {p : Nat} {s : RdS} (h : Rr W p s) {A' : Option Addr} {n' c' : Nat} {l' : List UInt8} (hr : Rd W (· < p) 1 A' n' (bs l')) (h1 : n' ≤ c') (h2 : c' ≤ maxLen) : Rr (W.setCell ⟨p, 0, none⟩ (.slice A' n' c')) p (l', s.2) := by
  obtain ⟨A, n, c, e1, _⟩ := h.ex
  exact ⟨⟨A', n', c', by simp [World.setCell, Array.getElem?_modify, e1], hr.setCell (p := ⟨p, 0, none⟩) (Nat.lt_irrefl p) _, h1, h2⟩, h.ev.set (Nat.le_refl _) _ _⟩
theorem Rr.gb {W W' : World} {p : Nat} {s : RdS} (h : Rr W p s) (hb : Below W.heap.size W W') : Rr W' p s := by
  obtain ⟨A, n, c, h1, h2, h3⟩ := h.ex
  exact ⟨⟨A, n, c, (hb.block p h.lt).trans h1, h2.below hb, h3⟩, h.ev.below hb (Nat.le_of_lt h.lt)⟩
theorem below_gb {W W' : World} {p : Nat} (hb : Below W.heap.size W W') : W.grownBy W' (some p) := ⟨hb.os, hb.tape, hb.output, hb.size, fun i hi _ => hb.block i hi⟩
theorem gb_trans {W W' W'' : World} {p : Nat} (h : W.grownBy W' (some p)) (h' : W'.grownBy W'' (some p)) : W.grownBy W'' (some p) :=
  ⟨h'.os.trans h.os, h'.tape.trans h.tape, h'.output.trans h.output, Nat.le_trans h.size h'.size, fun i hi hn => (h'.block i (Nat.lt_of_lt_of_le hi h.size) hn).trans (h.block i hi hn)⟩
theorem read_any (A : Option Addr) (n c : Nat) (l : List UInt8) (w : World) {ok : Nat → Prop} (hr : Rd w ok 1 A n (bs l)) (h1 : n ≤ c) (h2 : c ≤ maxLen) (hev : EvW w w.heap.size) :
    Calls Tryz.prog 172 #[.slice A n c] w (fun e w' => e = .returned (.pointer (some ⟨w.heap.size, 0, none⟩)) ∧ Rr w' w.heap.size (l, 0) ∧ Below w.heap.size w w') := by
  have hb0 := (Below.refl w.heap.size w).alloc (Nat.le_refl _) (.cells #[.slice A n c, .nilIface] 306)
  have R0 : Rr (w.alloc (.cells #[.slice A n c, .nilIface] 306)) w.heap.size (l, 0) := ⟨⟨A, n, c, heap_alloc_new _ _, ((hr.lt (by omega)).mono fun b hb => hb.2).below hb0, h1, h2⟩, hev.below hb0 (Nat.le_refl _)⟩
  have R := Lib.hid (And.intro R0 hb0)
  clear hr hev R0 hb0
  go_enter Tryz.func172, Tryz.ntmps172
  go_wp2_with fail
  go_ret
  exact ⟨rfl, R.out⟩
theorem fails_any (p : Nat) (s : RdS) (k : Int) (w : World) (h : Rr w p s) :
    Calls Tryz.prog 211 #[.pointer (some ⟨p, 0, none⟩), errE k] w (RdPost w p (s.1, if s.2 = 0 then k else s.2) (.bool (decide ((if s.2 = 0 then k else s.2) ≠ 0)))) := by
  obtain ⟨A, n, c, c0, c1, f0, f1, -⟩ := h.cells
  by_cases hs : s.2 = 0
  · rw [hs, errE0] at c1
    rw [if_pos hs]
    have he := h.err k
    have hg := gb_set w p 1 (errE k)
    by_cases hk : k = 0
    · subst hk
      have H := Lib.hid (And.intro he hg)
      rw [errE0] at H ⊢
      clear h he hg hs
      go_enter Tryz.func211, Tryz.ntmps211
      go_wp2_with fail
      go_ret
      exact ⟨by simp, H.out⟩
    · have H := Lib.hid (And.intro he hg)
      have hd : decide (k ≠ 0) = true := by simpa using hk
      rw [errE_ne hk] at H ⊢
      rw [hd]
      clear h he hg hs hd hk
      go_enter Tryz.func211, Tryz.ntmps211
      go_wp2_with fail
      go_ret
      exact ⟨rfl, H.out⟩
  · rw [errE_ne hs] at c1
    rw [if_neg hs]
    have H := Lib.hid (And.intro (show Rr w p (s.1, s.2) from h) (below_gb (p := p) (Below.refl _ w)))
    have hd : decide (s.2 ≠ 0) = true := by simpa using hs
    rw [hd]
    clear h hs hd
    by_cases hk : k = 0
    · subst hk
      rw [errE0]
      go_enter Tryz.func211, Tryz.ntmps211
      go_wp2_with fail
      go_ret
      exact ⟨rfl, H.out⟩
    · rw [errE_ne hk]
      go_enter Tryz.func211, Tryz.ntmps211
      go_wp2_with fail
      go_ret
      exact ⟨rfl, H.out⟩
theorem done_rd (p : Nat) (s : RdS) (w : World) (h : Rr w p s) :
    Calls Tryz.prog 175 #[.pointer (some ⟨p, 0, none⟩)] w (fun e w' => e = .returned (errE (doneS s)) ∧ w' = w) := by
  obtain ⟨A, n, c, c0, c1, f0, f1, hr, -⟩ := h.cells
  have hl := hr.blen
  by_cases hs : s.2 = 0
  · by_cases hn : n = 0
    · have hd : doneS s = 0 := by
        unfold doneS
        rw [if_neg (fun hh => hh.2 (List.eq_nil_of_length_eq_zero (by omega))), hs]
      rw [hd, errE0]
      rw [hs, errE0] at c1
      subst hn
      clear h hr hl hs hd
      go_enter Tryz.func175, Tryz.ntmps175
      go_wp2_with fail
      go_ret
      exact ⟨rfl, rfl⟩
    · have hd : doneS s = 3 := by
        unfold doneS
        rw [if_pos ⟨hs, fun hh => by rw [hh] at hl; simp at hl; omega⟩]
      rw [hd]
      rw [hs, errE0] at c1
      have hnI : (0 : Int) < n := by omega
      clear h hr hl hs hd
      go_enter Tryz.func175, Tryz.ntmps175
      go_wp2_with fail
      go_ret
      exact ⟨rfl, rfl⟩
  · have hd : doneS s = s.2 := by
      unfold doneS
      rw [if_neg (fun hh => hs hh.1)]
    rw [hd]
    rw [errE_ne hs] at c1 ⊢
    clear h hr hl hs hd
    go_enter Tryz.func175, Tryz.ntmps175
    go_wp2_with fail
    go_ret
    exact ⟨rfl, rfl⟩
theorem index_any (A : Option Addr) (n c : Nat) (l : List UInt8) (v : UInt8) (w : World) {ok : Nat → Prop} (hr : Rd w ok 1 A n (bs l)) (hn : n ≤ 1000000) :
    Calls Tryz.prog 259 #[.slice A n c, .int .u8 (v.toNat : Int)] w (fun e w' => (∃ z : Int, e = .returned (.int .i64 z) ∧ (0 ≤ z ↔ v ∈ l) ∧ -1 ≤ z ∧ z ≤ 1000000) ∧ w' = w) := by
  have hl := hr.blen
  have Hr := Lib.hid hr
  have Hl := Lib.hid hl
  clear hr hl
  go_enter Tryz.func259, Tryz.ntmps259
  go_wp2_with fail
  go_loopg [5, 8] n (fun m s5 s8 wr => ∃ j : Nat, m = n - j ∧ j ≤ n ∧ s8 = .int .i64 j ∧ v ∉ l.take j ∧ wr = w)
  case atStart => exact ⟨0, by omega, by omega, rfl, by simp, rfl⟩
  case round =>
    obtain ⟨j, hm, hj, rfl, hv, rfl⟩ := hrel
    have Hm := Lib.hid hm
    have Hv := Lib.hid hv
    clear hm hv
    by_cases hlt : j < n
    · obtain ⟨ad, rfl, _, hc⟩ := Hr.out.byte hlt
      obtain ⟨b, o, sp⟩ := ad
      have hjI : (j : Int) < n := by omega
      have hj0 : (0 : Int) ≤ j := by omega
      have hwj : IntKind.i64.wrap ((j : Int) + 1) = (j : Int) + 1 := by rw [IntKind.wrap_i64]; omega
      by_cases he : l.getD j 0 = v
      · rw [he] at hc
        have hq : ((v.toNat : Int) == (v.toNat : Int)) = true := by simp
        go_wp2_with fail
        go_ret
        have hl := Hl.out
        have hin : v ∈ l := by
          rw [← he, List.getD_eq_getElem?_getD, List.getElem?_eq_getElem (by omega)]
          exact List.getElem_mem _
        exact ⟨⟨j, rfl, ⟨fun _ => hin, fun _ => by omega⟩, by omega, by omega⟩, rfl⟩
      · have hq : ((v.toNat : Int) == ((l.getD j 0).toNat : Int)) = false := by
          simp only [beq_eq_false_iff_ne, ne_eq]
          intro h
          exact he (UInt8.toNat_inj.1 (by omega)).symm
        have hnext : v ∉ l.take (j + 1) := by
          have hl := Hl.out
          have hg : l.getD j 0 = l[j]'(by omega) := by rw [List.getD_eq_getElem?_getD, List.getElem?_eq_getElem (by omega)]; rfl
          rw [List.take_add_one, List.getElem?_eq_getElem (by omega), List.mem_append]
          rintro (h | h)
          · exact Hv.out h
          · simp only [Option.toList, List.mem_singleton] at h
            exact he (hg.trans h.symm)
        have Hn := Lib.hid hnext
        clear he hnext
        generalize ((l.getD j 0).toNat : Int) = z at hc hq
        go_wp2_with fail
        go_roundg (n - (j + 1))
        case measure => have := Hm.out; omega
        case rel => exact ⟨j + 1, rfl, by omega, by go_num, Hn.out, rfl⟩
    · obtain rfl : j = n := by omega
      go_wp2_with fail
      go_ret
      have hv := Hv.out
      rw [List.take_of_length_le (Nat.le_of_eq Hl.out)] at hv
      exact ⟨⟨-1, rfl, ⟨fun h => absurd h (by omega), fun h => absurd h hv⟩, by omega, by omega⟩, rfl⟩
theorem contains_any (A : Option Addr) (n c : Nat) (l : List UInt8) (v : UInt8) (w : World) {ok : Nat → Prop} (hr : Rd w ok 1 A n (bs l)) (hn : n ≤ 1000000) :
    Calls Tryz.prog 254 #[.slice A n c, .int .u8 (v.toNat : Int)] w (fun e w' => e = .returned (.bool (decide (v ∈ l))) ∧ w' = w) := by
  have hi := index_any A n c l v w hr hn
  have Hi := Lib.hid hi
  clear hi hr
  go_enter Tryz.func254, Tryz.ntmps254
  go_wp2_with fail
  refine Hi.out.mono ?_
  rintro e w1 ⟨⟨z, rfl, hz, h1, h2⟩, rfl⟩
  have Hz := Lib.hid hz
  clear hz
  by_cases h0 : 0 ≤ z
  · go_wp2_with fail
    go_ret
    rw [decide_eq_true (Hz.out.1 h0)]
    exact ⟨rfl, rfl⟩
  · have hd : decide (0 ≤ z) = false := decide_eq_false h0
    go_wp2_with fail
    go_ret
    rw [decide_eq_false (fun h => by have := Hz.out.2 h; omega)]
    exact ⟨rfl, rfl⟩
end Go.Proofs.YtmhaahcbmdhinaaGreatDoor

namespace Go.Proofs.YtmhaahcbmdhinaaGreatDoor
open Go.RowKit
set_option maxRecDepth 100000
set_option linter.unusedVariables false
set_option linter.unusedSimpArgs false
/-- What stands in the way of a letter. -/
def headE (x : UInt8) : List UInt8 → Int
  | [] => 12
  | c :: _ => if c = x then 0 else 3
theorem begin_any (p : Nat) (s : RdS) (x : UInt8) (w : World) (h : Rr w p s) :
    Calls Tryz.prog 242 #[.pointer (some ⟨p, 0, none⟩), .string ⟨#[x]⟩] w (fun e w' => e = .returned (errE (headE x s.1)) ∧ Below w.heap.size w w') := by
  obtain ⟨A, n, c, c0, c1, f0, f1, hr, -⟩ := h.cells
  have hl := hr.blen
  by_cases hn : n = 0
  · subst hn
    have e : headE x s.1 = 12 := by rw [List.eq_nil_of_length_eq_zero hl]; rfl
    rw [e]
    clear h hr hl e
    go_enter Tryz.func242, Tryz.ntmps242
    go_wp2_with fail
    go_ret
    exact ⟨rfl, Below.refl _ _⟩
  · obtain ⟨y, r, hyr⟩ : ∃ y r, s.1 = y :: r := by
      cases hs : s.1 with
      | nil => rw [hs] at hl; simp at hl; omega
      | cons y r => exact ⟨y, r, rfl⟩
    obtain ⟨ad, rfl, _, hc⟩ := hr.byte (k := 0) (by omega)
    have e0 : (s.1.getD 0 0) = y := by rw [hyr]; rfl
    rw [e0] at hc
    obtain ⟨b, o, sp⟩ := ad
    have hbl : b < w.heap.size := World.block_lt_of_cell? w _ (show w.cell? ⟨b, o, sp⟩ = _ from hc)
    have hpl := h.lt
    have hcv := Lib.run_convert_string_bytes (P := Tryz.prog) w 9 26 5 ⟨#[x]⟩ Tryz.underlying9 Tryz.underlying26 Tryz.underlying5
    have hbw := Lib.bytesWorld_below w 5 ⟨#[x]⟩
    have hnew : Rd (Lib.bytesWorld w 5 ⟨#[x]⟩) T 1 (some ⟨w.heap.size, 0, none⟩) 1 (bs [x]) := by
      refine ⟨rfl, fun _ => ⟨_, rfl, trivial, fun j u hu => ?_⟩⟩
      have hj : j = 0 := by
        have := (List.getElem?_eq_some_iff.1 hu).1
        simp [bs] at this
        exact this
      subst hj
      have := Lib.bytesWorld_cell w 5 ⟨#[x]⟩ 0 (by show (0 : Nat) < 1; omega)
      simp only [bs, List.map_cons, List.map_nil, List.getElem?_cons_zero, Option.some.injEq] at hu
      rw [← hu]
      exact this
    obtain ⟨W1, hW1⟩ : ∃ W1, W1 = Lib.bytesWorld w 5 ⟨#[x]⟩ := ⟨_, rfl⟩
    obtain ⟨cc, hcc⟩ : ∃ cc, cc = grownCap w (⟨#[x]⟩ : ByteArray).size 0 5 := ⟨_, rfl⟩
    rw [← hW1, ← hcc] at hcv
    rw [← hW1] at hbw hnew
    have hcon := contains_any (some ⟨w.heap.size, 0, none⟩) 1 cc [x] y W1 hnew (by omega)
    have k0 : W1.cell? ⟨p, 0, none⟩ = some (.slice (some ⟨b, o, sp⟩) n c) := (hbw.cell (p := ⟨p, 0, none⟩) hpl).trans c0
    have k2 : W1.cell? ⟨b, o, sp⟩ = some (.int .u8 (y.toNat : Int)) := (hbw.cell (p := ⟨b, o, sp⟩) hbl).trans hc
    have hsz : (⟨#[x]⟩ : ByteArray).size = 1 := rfl
    rw [hsz] at hcv
    have hn1 : (n : Int) ≠ 0 := by omega
    have hn2 : ((n : Int) == 0) = false := by simpa using hn1
    have hn3 : (0 : Int) < n := by omega
    have Hcon := Lib.hid hcon
    have Hbw := Lib.hid hbw
    have he : headE x s.1 = if y = x then 0 else 3 := by rw [hyr]; rfl
    rw [he]
    clear h hr hl hnew hcon hbw hW1 hcc e0 hyr he
    by_cases hxy : y = x
    · subst hxy
      rw [if_pos rfl]
      have hd : decide (y ∈ [y]) = true := by simp
      rw [hd] at Hcon
      clear hd
      go_enter Tryz.func242, Tryz.ntmps242
      go_wp2_with fail
      refine Hcon.out.mono ?_
      rintro e w1 ⟨rfl, rfl⟩
      go_wp2_with fail
      go_ret
      exact ⟨rfl, Hbw.out⟩
    · rw [if_neg hxy]
      have hd : decide (y ∈ [x]) = false := by simpa using hxy
      rw [hd] at Hcon
      clear hd hxy
      go_enter Tryz.func242, Tryz.ntmps242
      go_wp2_with fail
      refine Hcon.out.mono ?_
      rintro e w1 ⟨rfl, rfl⟩
      go_wp2_with fail
      go_ret
      exact ⟨rfl, Hbw.out⟩
/-- What the digits' end tells, as the program hands it back. -/
def numV (a : Nat) : Int ⊕ (Nat × Nat) → Value
  | .inl e => .tuple #[.int .u64 0, .int .i64 0, errE e]
  | .inr (u, k) => .tuple #[.int .u64 (u : Nat), .int .i64 ((a + k + 1 : Nat) : Int), .nilIface]
theorem numV_inr (a u k : Nat) : numV a (.inr (u, k)) = .tuple #[.int .u64 (u : Nat), .int .i64 ((a + k + 1 : Nat) : Int), .nilIface] := rfl
theorem numV_inl (a : Nat) (e : Int) : numV a (.inl e) = .tuple #[.int .u64 0, .int .i64 0, errE e] := rfl
set_option maxHeartbeats 3200000 in
theorem digits_rd (A : Option Addr) (n c : Nat) (l : List UInt8) (a : Nat) (sg : UInt8) (w : World) {ok : Nat → Prop} (hr : Rd w ok 1 A n (bs l)) (h1 : n ≤ c) (h2 : c ≤ maxLen) (ha : a ≤ n) {q : Nat} (hev : EvW w q) :
    Calls Tryz.prog 243 #[.slice A n c, .int .i64 (a : Nat), .int .u8 (sg.toNat : Int)] w (fun e w' => e = .returned (numV a (dscan sg [] (l.drop a))) ∧ Below w.heap.size w w') := by
  have hl := hr.blen
  have hmc : maxLen = 9223372036854775807 := by decide
  obtain ⟨R, hR⟩ : ∃ R, dscan sg [] (l.drop a) = R := ⟨_, rfl⟩
  rw [hR]
  have Hr := Lib.hid hr
  have Hl := Lib.hid hl
  have HR := Lib.hid hR
  have Hev := Lib.hid hev
  have Hc := Lib.hid (And.intro h1 (And.intro h2 hmc))
  clear hr hl hR hev h1 h2 hmc
  go_enter Tryz.func243, Tryz.ntmps243
  go_wp2_with fail
  go_loopg [9] (n - a) (fun m s9 wr => ∃ j i : Nat, m = n - i ∧ i = a + j ∧ i ≤ n ∧ j ≤ 20 ∧ s9 = .int .i64 i ∧ R = dscan sg ((l.drop a).take j) (l.drop i) ∧ wr = w)
  case atStart => exact ⟨0, a, by omega, by omega, by omega, by omega, rfl, by rw [← HR.out]; simp, rfl⟩
  case round =>
    clear HR
    obtain ⟨j, i, hm, hi, hj, hj2, rfl, hR, rfl⟩ := hrel
    have Hm := Lib.hid hm
    have Hi := Lib.hid hi
    have HR := Lib.hid hR
    clear hm hi hR
    by_cases hlt : i < n
    · obtain ⟨ad, rfl, _, hc⟩ := Hr.out.byte hlt
      obtain ⟨b, o, sp⟩ := ad
      have hiI : (i : Int) < n := by omega
      have hi0 : (0 : Int) ≤ i := by omega
      have hwi : IntKind.i64.wrap ((i : Int) + 1) = (i : Int) + 1 := by have := Hc.out; rw [IntKind.wrap_i64]; omega
      have hwj : IntKind.i64.wrap ((i : Int) - (a : Int)) = (j : Int) := by have := Hc.out; have := Hi.out; rw [IntKind.wrap_i64]; omega
      have hg : l.getD i 0 = l[i]'(by have := Hl.out; omega) := by rw [List.getD_eq_getElem?_getD, List.getElem?_eq_getElem (by have := Hl.out; omega)]; rfl
      have hdrop : l.drop i = l[i]'(by have := Hl.out; omega) :: l.drop (i + 1) := List.drop_eq_getElem_cons (by have := Hl.out; omega)
      have htk : (l.drop a).take (j + 1) = (l.drop a).take j ++ [l[i]'(by have := Hl.out; omega)] := by
        have := Hi.out
        have := Hl.out
        rw [List.take_add_one, List.getElem?_drop, ← Hi.out, List.getElem?_eq_getElem (by omega)]
        rfl
      have htl : ((l.drop a).take j).length = j := by have := Hi.out; have := Hl.out; simp; omega
      rw [hg] at hc
      have hR2 := HR.out
      rw [hdrop, dscan] at hR2
      have hc256 := (l[i]'(by have := Hl.out; omega)).toNat_lt
      generalize l[i]'(by have := Hl.out; omega) = ch at hc hR2 htk hc256
      by_cases hs : ch = sg
      · subst hs
        rw [if_pos rfl] at hR2
        have hq : ((ch.toNat : Int) != (ch.toNat : Int)) = false := by simp
        clear hg hdrop htk
        obtain ⟨ds, hds⟩ : ∃ ds, (l.drop a).take j = ds := ⟨_, rfl⟩
        rw [hds] at hR2 htl
        obtain ⟨hc1, hc2, hc3⟩ := Hc.out
        have hia := Hi.out
        have hsl : ∀ W, (Instr.sliceAt 26 (.slice (some ⟨b, o, sp⟩) n c) (some (.int .i64 (a : Int))) (some (.int .i64 (i : Int))) none).run Tryz.prog W = .ok (.slice (if c = a then some ⟨b, o, sp⟩ else (some ⟨b, o, sp⟩ : Option Addr).map (·.add (a * 1))) (i - a) (c - a)) W := fun W => run_slice_lohi (P := Tryz.prog) 26 Tryz.underlying26 (size := 1) (by kernel_rfl) (some ⟨b, o, sp⟩) n c W a i (by omega) (by omega)
        have hrs := Hr.out.bsub (i := a) (k := j) (m := c) (by omega) (by omega)
        rw [hds] at hrs
        rw [show i - a = j by omega, Nat.mul_one] at hsl
        generalize (if c = a then some ⟨b, o, sp⟩ else (some ⟨b, o, sp⟩ : Option Addr).map (·.add a)) = A5 at hsl hrs
        have hcv := conv_bytes (P := Tryz.prog) (c := c - a) 26 9 5 Tryz.underlying26 Tryz.underlying5 Tryz.underlying9 hrs
        have haI : (a : Int) ≤ i := by omega
        have ha0 : (0 : Int) ≤ a := by omega
        have hiC : (i : Int) ≤ c := by omega
        have hgei : ¬ (n : Int) ≤ i := by omega
        have hged : decide ((n : Int) ≤ (i : Int)) = false := decide_eq_false hgei
        have hdl : (⟨ds.toArray⟩ : ByteArray).data.toList = ds := rfl
        have hdz : (⟨ds.toArray⟩ : ByteArray).size = j := by rw [← htl]; exact List.size_toArray
        have hwi1 : IntKind.i64.wrap ((a : Int) + 1) = (a : Int) + 1 := by rw [IntKind.wrap_i64]; omega
        have bad : ∀ (te : TypeId) (pe : Value) (z : Int) (W1 : World), dnum ds = .inl 3 → Lib.parseUintB 64 ds = Lib.parseUintB 64 ds → True := fun _ _ _ _ _ _ => trivial
        clear bad hrs hia
        cases hp : Lib.parseUintB 64 ds with
        | ok u =>
          have hj1 : 1 ≤ j := by
            rcases Nat.eq_zero_or_pos j with h0 | h0
            · exfalso
              have : ds = [] := List.eq_nil_of_length_eq_zero (by omega)
              rw [this] at hp
              cases hp
            · exact h0
          have hpu := Tryz.strconv_ParseUint_10_at64_ok ⟨ds.toArray⟩ (by omega) u (by rw [hdl]; exact hp) wr
          obtain ⟨ad2, e2, _, hc2'⟩ := Hr.out.byte (k := a) (by have := Hi.out; omega)
          injection e2 with e2
          subst e2
          have hfirst : ds.head? = some (l.getD a 0) := by
            have := Hl.out
            have := Hi.out
            rw [← hds, List.head?_take, if_neg (by omega), List.head?_drop, List.getElem?_eq_getElem (by omega), List.getD_eq_getElem?_getD, List.getElem?_eq_getElem (by omega)]
            rfl
          have hbl : b < wr.heap.size := by have := World.block_lt_of_cell? wr _ hc; rwa [block_of_add] at this
          have hR3 : R = if (l.getD a 0).toNat = 48 ∧ 1 < j then .inl 3 else .inr (u, j) := by
            rw [hR2]
            unfold dnum
            rw [hp, hfirst, htl]
            dsimp only
            congr 1
            simp only [Option.some.injEq, eq_iff_iff]
            constructor
            · rintro ⟨h1, h2⟩
              exact ⟨by rw [h1]; rfl, h2⟩
            · rintro ⟨h1, h2⟩
              exact ⟨UInt8.toNat_inj.1 (by rw [h1]; rfl), h2⟩
          have HR3 := Lib.hid hR3
          have Hpu := Lib.hid hpu
          generalize l.getD a 0 = c1 at hc2' HR3
          have C2 := Lib.hid hc2'
          clear hR2 hR3 hpu hfirst hdl hdz hds htl hp hc2'
          have hc1256 := c1.toNat_lt
          go_wp2_with fail
          refine Hpu.out.mono ?_
          rintro e w1 ⟨rfl, hw1⟩
          have hb1 : Below wr.heap.size wr w1 := by
            rcases hw1 with rfl | rfl
            · exact Below.refl _ _
            · exact Lib.bytesWorld_below _ _ _
          clear hw1
          have k1 := (hb1.cell (p := (⟨b, o, sp⟩ : Addr).add a) (by rw [block_of_add]; exact hbl)).trans C2.out
          have Hb1 := Lib.hid hb1
          have eV : numV a (.inr (u, j)) = .tuple #[.int .u64 (u : Nat), .int .i64 ((i : Int) + 1), .nilIface] := by
            have := Hi.out
            have e2 : ((a + j + 1 : Nat) : Int) = (i : Int) + 1 := by omega
            rw [numV_inr, e2]
          have EV := Lib.hid eV
          clear hb1 eV
          by_cases h48 : c1.toNat = 48
          · have e48 : ((c1.toNat : Int) == 48) = true := by simp; omega
            by_cases h1 : 1 < j
            · have e1 : decide ((a : Int) + 1 < i) = true := decide_eq_true (by have := Hi.out; omega)
              go_wp2_with fail
              go_ret3
              rw [HR3.out, if_pos ⟨h48, h1⟩, numV_inl]
              exact ⟨rfl, Hb1.out⟩
            · have e1 : decide ((a : Int) + 1 < i) = false := decide_eq_false (by have := Hi.out; omega)
              go_wp2_with fail
              go_ret3
              rw [HR3.out, if_neg (fun h => h1 h.2), EV.out]
              exact ⟨rfl, Hb1.out⟩
          · have e48 : ((c1.toNat : Int) == 48) = false := by simp; omega
            go_wp2_with fail
            go_ret3
            rw [HR3.out, if_neg (fun h => h48 h.1), EV.out]
            exact ⟨rfl, Hb1.out⟩
        | range =>
          obtain ⟨te, pe, tr, pr, v1, v2, -, -⟩ := Hev.out
          have hpu := Tryz.strconv_ParseUint_10_at64_range ⟨ds.toArray⟩ (by omega) (by rw [hdl]; exact hp) (.iface tr pr) wr v2 (.inr ⟨tr, pr, rfl⟩)
          have hR3 : R = .inl 3 := by
            rw [hR2]
            unfold dnum
            rw [hp]
          have HR3 := Lib.hid hR3
          have Hpu := Lib.hid hpu
          clear hR2 hR3 hpu hdl hdz hds htl hp v1 v2
          go_wp2_with fail
          refine Hpu.out.mono ?_
          rintro e w1 ⟨N, rfl, -, -, hb1⟩
          have Hb1 := Lib.hid hb1
          clear hb1
          go_wp2_with fail
          go_ret3
          rw [HR3.out, numV_inl]
          exact ⟨rfl, Hb1.out⟩
        | _ =>
          obtain ⟨te, pe, tr, pr, v1, v2, -, -⟩ := Hev.out
          have hpu := Tryz.strconv_ParseUint_10_at64_syntax ⟨ds.toArray⟩ (by omega) (by rw [hdl]; exact hp.trans (if_pos rfl).symm) (.iface te pe) wr v1 (.inr ⟨te, pe, rfl⟩)
          have hR3 : R = .inl 3 := by
            rw [hR2]
            unfold dnum
            rw [hp]
          have HR3 := Lib.hid hR3
          have Hpu := Lib.hid hpu
          clear hR2 hR3 hpu hdl hdz hds htl hp v1 v2
          go_wp2_with fail
          refine Hpu.out.mono ?_
          rintro e w1 ⟨N, rfl, -, -, hb1⟩
          have Hb1 := Lib.hid hb1
          clear hb1
          go_wp2_with fail
          go_ret3
          rw [HR3.out, numV_inl]
          exact ⟨rfl, Hb1.out⟩
      · rw [if_neg hs] at hR2
        have hq : ((ch.toNat : Int) != (sg.toNat : Int)) = true := by
          simp only [bne_iff_ne, ne_eq]
          intro h
          exact hs (UInt8.toNat_inj.1 (by omega))
        rw [htl] at hR2
        by_cases hd1 : ch.toNat < 48
        · have hd : isDig ch = false := by unfold isDig; simp; omega
          rw [if_pos (.inl hd)] at hR2
          have e1 : decide ((ch.toNat : Int) < 48) = true := decide_eq_true (by omega)
          have HR3 := Lib.hid hR2
          clear hR2 hg hdrop htk hd hs
          go_wp2_with fail
          go_ret3
          rw [HR3.out, numV_inl]
          exact ⟨rfl, Below.refl _ _⟩
        have e1 : decide ((ch.toNat : Int) < 48) = false := decide_eq_false (by omega)
        by_cases hd2 : 57 < ch.toNat
        · have hd : isDig ch = false := by unfold isDig; simp; omega
          rw [if_pos (.inl hd)] at hR2
          have e2 : decide (57 < (ch.toNat : Int)) = true := decide_eq_true (by omega)
          have HR3 := Lib.hid hR2
          clear hR2 hg hdrop htk hd hs
          go_wp2_with fail
          go_ret3
          rw [HR3.out, numV_inl]
          exact ⟨rfl, Below.refl _ _⟩
        have e2 : decide (57 < (ch.toNat : Int)) = false := decide_eq_false (by omega)
        by_cases hd3 : 20 ≤ j
        · rw [if_pos (.inr hd3)] at hR2
          have e3 : decide ((20 : Int) ≤ (j : Int)) = true := decide_eq_true (by omega)
          have HR3 := Lib.hid hR2
          clear hR2 hg hdrop htk hs
          go_wp2_with fail
          go_ret3
          rw [HR3.out, numV_inl]
          exact ⟨rfl, Below.refl _ _⟩
        have e3 : decide (20 ≤ j) = false := decide_eq_false hd3
        have hd : isDig ch = true := by unfold isDig; simp; omega
        rw [if_neg (show ¬ (isDig ch = false ∨ 20 ≤ j) from fun h => h.elim (fun h => by rw [hd] at h; cases h) (fun h => hd3 h)), ← htk] at hR2
        have HR3 := Lib.hid hR2
        clear hR2 hg hdrop htk hs hd
        go_wp2_with fail
        go_roundg (n - (i + 1))
        case measure => have := Hm.out; omega
        case rel => exact ⟨j + 1, i + 1, rfl, by have := Hi.out; omega, by omega, by omega, by go_num, HR3.out, rfl⟩
    · obtain rfl : i = n := by omega
      have hR2 := HR.out
      rw [List.drop_of_length_le (Nat.le_of_eq Hl.out), dscan] at hR2
      have HR3 := Lib.hid hR2
      clear hR2
      go_wp2_with fail
      go_ret3
      rw [HR3.out, numV_inl]
      exact ⟨rfl, Below.refl _ _⟩
end Go.Proofs.YtmhaahcbmdhinaaGreatDoor

