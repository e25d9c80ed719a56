/- Walks: whether members may be: conf.Check, and the document's May. (Cut by mkcm.py.)
   Contracts of the library's sort and compaction at this dump: laid by the kit's own commands in plain words.
   A number's decimal digits: strconv.FormatUint at base 10, strconv.Itoa; from the kit's contracts on the inner parts.
   A pack.Writer of the call's own: its object, and what each of its acts lays behind.
   The document's own numerals and what it lays behind bytes. -/
import Derived.Test.YtmhaahcbmdhinaaGreatDoorKW1
import Derived.Test.YtmhaahcbmdhinaaGreatDoorKW0
import Derived.RegionTactic
import Derived.Deep.LoopGhost
import Derived.Deep.DeepCutAuto
import Derived.BigQuiet
import Derived.Shelf.Small.Bits
import Derived.Shelf.Strconv.Itoa0
import Derived.Shelf.Strconv.Itoa1
import Derived.Shelf.LaysM
import Derived.Shelf.Strconv.Itoa2
import Derived.Shelf.Strconv.Itoa3
import Derived.Ground.MpProg
import Derived.Shelf.Pu.ParseUintPublic10
import Derived.Shelf.Pu.ErrVarParseUint
import Derived.Shelf.Sort.Plain
import Derived.Shelf.Slices.In.SortNone
import Derived.Ground.SlgfProg
import Derived.Shelf.SlicesE.IndexFunc
import Derived.Test.YtmhaahcbmdhinaaGreatDoorProg
import Derived.Lib.SmallJoins
import Derived.Lib.AppendStr
namespace Go.Proofs.YtmhaahcbmdhinaaGreatDoor
open Go.RowKit
set_option maxRecDepth 100000
set_option linter.unusedVariables false
set_option linter.unusedSimpArgs false
def IntPost (W : World) (z : Int) (e : Ending) (w' : World) : Prop := e = .returned (.int .i64 z) ∧ Below W.heap.size W w'
theorem ret_int {a b : Int} (h : a = b) : Ending.returned (.int .i64 a) = .returned (.int .i64 b) := by rw [h]
theorem int_elem : Elem Tryz.prog 3 (.int .i64 0) 1 8 := by unfold Elem; kernel_rfl
theorem ii_one (l : List Int) : ∀ u ∈ ii l, u.oneCell' = true := by
  intro u hu
  obtain ⟨z, _, rfl⟩ := List.mem_map.1 hu
  rfl
theorem ii_cell {w : World} {ok : Nat → Prop} {n : Nat} {A : Option Addr} {l : List Int} (h : Rd w ok 1 A n (ii l)) {j : Nat} (hj : j < n) : ∃ b o z, A = some ⟨b, o, none⟩ ∧ ok b ∧ b < w.heap.size ∧ l[j]? = some z ∧ w.cell? ⟨b, o + j, none⟩ = some (.int .i64 z) := by
  obtain ⟨b, o, e, hb, hlt, hc⟩ := h.plain (by omega) (by omega)
  have hl : l.length = n := by have := h.1; simpa [ii] using this
  exact ⟨b, o, l[j]'(by omega), e, hb, hlt, List.getElem?_eq_getElem (by omega), hc j _ (by simp [ii, List.getElem?_eq_getElem (show j < l.length by omega)])⟩
theorem ii_len {w : World} {ok : Nat → Prop} {n : Nat} {A : Option Addr} {l : List Int} (h : Rd w ok 1 A n (ii l)) : l.length = n := by have := h.1; simpa [ii] using this
def SameBool (W : World) (b : Bool) (e : Ending) (w' : World) : Prop := e = .returned (.bool b) ∧ W = w'
theorem incr_cons (a x : Int) (l : List Int) : incr a (x :: l) = (decide (a < x) && decide (x ≤ 64) && incr x l) := rfl
theorem drop_at {l : List Int} {j : Nat} {x : Int} (h : l[j]? = some x) : l.drop j = x :: l.drop (j + 1) := by
  obtain ⟨hj, rfl⟩ := List.getElem?_eq_some_iff.1 h
  rw [List.drop_eq_getElem_cons hj]
theorem cmay_any (A : Option Addr) (n c : Nat) (l : List Int) (w : World) {ok : Nat → Prop} (hr : Rd w ok 1 A n (ii l)) (hn : n ≤ 1000000) :
    Calls Tryz.prog 122 #[.slice A n c] w (SameBool w (cmay l)) := by
  have Hl := Lib.hid (ii_len hr)
  go_enter Tryz.func122, Tryz.ntmps122
  go_wp2_with fail
  go_loopg [3, 5, 8] n (fun m s3 s5 s8 wr => ∃ (j : Nat) (a : Int), m = n - j ∧ j ≤ n ∧ s8 = .int .i64 j ∧ s3 = .int .i64 a ∧ incr 0 l = incr a (l.drop j) ∧ wr = w)
  case atStart => exact ⟨0, 0, by omega, by omega, rfl, rfl, rfl, rfl⟩
  case round =>
    obtain ⟨j, a, hm, hj, rfl, rfl, hin, rfl⟩ := hrel
    have Hm := Lib.hid hm
    have Hin := Lib.hid hin
    clear hm hin
    by_cases hlt : j < n
    · obtain ⟨b, o, x, rfl, _, _, hx, hc⟩ := ii_cell hr hlt
      have Hx := Lib.hid hx
      clear hx
      have hltI : (j : Int) < n := by omega
      by_cases h1 : x ≤ a
      · have hf : cmay l = false := by
          unfold cmay
          rw [Hin.out, drop_at Hx.out, incr_cons, decide_eq_false (by omega)]
          rfl
        have Hf := Lib.hid hf
        clear hf
        go_wp2_with fail
        go_ret
        exact ⟨ret_bool (by rw [Hf.out]), rfl⟩
      · by_cases h2 : 64 < x
        · have hf : cmay l = false := by
            unfold cmay
            rw [Hin.out, drop_at Hx.out, incr_cons, decide_eq_false (p := x ≤ 64) (by omega)]
            simp
          have Hf := Lib.hid hf
          clear hf
          go_wp2_with fail
          go_ret
          exact ⟨ret_bool (by rw [Hf.out]), rfl⟩
        · have hf : incr 0 l = incr x (l.drop (j + 1)) := by
            rw [Hin.out, drop_at Hx.out, incr_cons, decide_eq_true (by omega), decide_eq_true (p := x ≤ 64) (by omega)]
            rfl
          have Hf := Lib.hid hf
          clear hf
          go_wp2_with fail
          go_roundg (n - (j + 1))
          case measure => have := Hm.out; omega
          case rel => exact ⟨j + 1, x, rfl, by omega, by go_num, rfl, Hf.out, rfl⟩
    · obtain rfl : j = n := by omega
      have hf0 : cmay l = (decide (1 ≤ j) && decide (j ≤ 7)) := by
        unfold cmay
        rw [Hin.out, Hl.out, List.drop_of_length_le (Nat.le_of_eq Hl.out)]
        simp [incr]
      by_cases h1 : (1 : Int) ≤ j
      · by_cases h2 : (j : Int) ≤ 7
        · have hf : cmay l = true := by rw [hf0, decide_eq_true (by omega), decide_eq_true (by omega)]; rfl
          have Hf := Lib.hid hf
          clear hf hf0
          go_wp2_with fail
          go_ret
          exact ⟨ret_bool (by rw [Hf.out]), rfl⟩
        · have hf : cmay l = false := by rw [hf0, decide_eq_false (p := j ≤ 7) (by omega), Bool.and_false]
          have Hf := Lib.hid hf
          clear hf hf0
          go_wp2_with fail
          go_ret
          exact ⟨ret_bool (by rw [Hf.out]), rfl⟩
      · have hf : cmay l = false := by rw [hf0, decide_eq_false (p := 1 ≤ j) (by omega), Bool.false_and]
        have Hf := Lib.hid hf
        clear hf hf0
        go_wp2_with fail
        go_ret
        exact ⟨ret_bool (by rw [Hf.out]), rfl⟩
def ChPost (W : World) (b : Bool) (e : Ending) (w' : World) : Prop := e = .returned (if b then .nilIface else .iface 105 (.int .i64 1)) ∧ W = w'
theorem chk_any (A : Option Addr) (n c : Nat) (l : List Int) (w : World) {ok : Nat → Prop} (hr : Rd w ok 1 A n (ii l)) (hn : n ≤ 1000000) :
    Calls Tryz.prog 94 #[.slice A n c] w (ChPost w (cmay l)) := by
  have hmay := cmay_any A n c l w hr hn
  generalize cmay l = q at hmay
  have Hmay := Lib.hid hmay
  clear hr hmay
  go_enter Tryz.func94, Tryz.ntmps94
  go_wp2_with fail
  refine Hmay.out.mono ?_
  rintro e w1 ⟨rfl, rfl⟩
  cases q
  all_goals
    go_wp2_with fail
    go_ret
    exact ⟨rfl, rfl⟩
end Go.Proofs.YtmhaahcbmdhinaaGreatDoor

namespace Go.Proofs
open Go.Shelf
def Tryz.lays129_ren : Go.Shelf.Ren := ⟨fun | 129 => 234 | n => n, fun | 53 => 214 | 3 => 3 | 4 => 4 | 46 => 82 | 5 => 5 | 9 => 9 | n => n, fun | n => n⟩
def Tryz.lays317_ren : Go.Shelf.Ren := ⟨fun | 317 => 250 | n => n, fun | 3 => 3 | 46 => 82 | n => n, fun | n => n⟩
def Tryz.lays318_ren : Go.Shelf.Ren := ⟨fun | 318 => 251 | n => n, fun | 3 => 3 | 4 => 4 | n => n, fun | n => n⟩
def Tryz.lays283_ren : Go.Shelf.Ren := ⟨fun | 283 => 238 | n => n, fun | 3 => 3 | 9 => 9 | 4 => 4 | n => n, fun | n => n⟩
theorem Tryz.lays283 : Go.Proofs.Lays.n283 Tryz.prog Tryz.lays283_ren := {
  mixed := by kernel_rfl
  f283 := Tryz.func238.trans (congrArg some (by kernel_rfl))
  t3 := Tryz.underlying3
  a3 := Tryz.isAgg3
  z3 := Tryz.sizeOf3
  v3 := Tryz.zeroValue3
  t4 := Tryz.underlying4
  a4 := Tryz.isAgg4
  z4 := Tryz.sizeOf4
  v4 := Tryz.zeroValue4
  t9 := Tryz.underlying9
  a9 := Tryz.isAgg9
  z9 := Tryz.sizeOf9
  v9 := Tryz.zeroValue9 }
open Go.Lib in
/-- internal/strconv.small: "small returns the string for an i with 0 <= i < nSmalls.": i's decimal numeral. The world is as it was. (LAID: no walk: one application.) -/
theorem Tryz.internal_strconv_small (i : Nat) (h : i < 100) (w : World) :
    Calls Tryz.prog 238 #[.int .i64 i] w fun e w' => e = .returned (.string ⟨(Lib.decDigits i).toArray⟩) ∧ w' = w := Any.internal_strconv_small Tryz.lays283 i h w
def Tryz.laysM284_ren : Go.Shelf.Ren := ⟨fun | 284 => 239 | 129 => 234 | 317 => 250 | 318 => 251 | n => n, fun | 53 => 214 | 3 => 3 | 212 => 345 | 0 => 0 | 4 => 4 | 46 => 82 | 5 => 5 | 9 => 9 | n => n, fun | 17 => 1 | n => n⟩
theorem Tryz.laysM284 : Go.Proofs.LaysM.n284 Tryz.prog Tryz.laysM284_ren := {
  mixed := by kernel_rfl
  f129 := Tryz.func234.trans (congrArg some (by kernel_rfl))
  f284 := Tryz.func239.trans (congrArg some (by kernel_rfl))
  f317 := Tryz.func250.trans (congrArg some (by kernel_rfl))
  f318 := Tryz.func251.trans (congrArg some (by kernel_rfl))
  t0 := Tryz.underlying0
  a0 := Tryz.isAgg0
  z0 := Tryz.sizeOf0
  v0 := Tryz.zeroValue0
  t3 := Tryz.underlying3
  a3 := Tryz.isAgg3
  z3 := Tryz.sizeOf3
  v3 := Tryz.zeroValue3
  t4 := Tryz.underlying4
  a4 := Tryz.isAgg4
  z4 := Tryz.sizeOf4
  v4 := Tryz.zeroValue4
  t5 := Tryz.underlying5
  a5 := Tryz.isAgg5
  z5 := Tryz.sizeOf5
  v5 := Tryz.zeroValue5
  t9 := Tryz.underlying9
  a9 := Tryz.isAgg9
  z9 := Tryz.sizeOf9
  v9 := Tryz.zeroValue9
  t46 := Tryz.underlying82
  a46 := Tryz.isAgg82
  z46 := Tryz.sizeOf82
  v46 := Tryz.zeroValue82
  t53 := Tryz.underlying214
  a53 := Tryz.isAgg214
  z53 := Tryz.sizeOf214
  v53 := Tryz.zeroValue214
  t212 := Tryz.underlying345
  a212 := Tryz.isAgg345
  z212 := Tryz.sizeOf345
  v212 := Tryz.zeroValue345
  g17 := by kernel_rfl
  i0 := by kernel_rfl
  i3 := by kernel_rfl
  i4 := by kernel_rfl
  i5 := by kernel_rfl
  i9 := by kernel_rfl
  i46 := by kernel_rfl
  i53 := by kernel_rfl
  i212 := by kernel_rfl
  m17 := by kernel_rfl }
open Go.Lib in
/-- internal/strconv.numDigits, at a d that is not 0: THE NUMBER OF d's DECIMAL DIGITS. The world is as it was. (LAID: no walk: one application.) -/
theorem Tryz.internal_strconv_numDigits (u : Nat) (h1 : 1 ≤ u) (h2 : u < 18446744073709551616) (w : World) (htab : Lib.TabIs Tryz.prog w "internal/strconv.uint64pow10" .u64 Lib.pow10Tab) :
    Calls Tryz.prog 239 #[.int .u64 u] w fun e w' => e = .returned (.int .i64 (Lib.nDigits u)) ∧ w' = w := Any.internal_strconv_numDigits Tryz.laysM284 u h1 h2 w htab
def Tryz.lays285_ren : Go.Shelf.Ren := ⟨fun | 285 => 240 | n => n, fun | 37 => 26 | 53 => 214 | 3 => 3 | 4 => 4 | 51 => 327 | 9 => 9 | 5 => 5 | 0 => 0 | n => n, fun | n => n⟩
theorem Tryz.lays285 : Go.Proofs.Lays.n285 Tryz.prog Tryz.lays285_ren := {
  mixed := by kernel_rfl
  f285 := Tryz.func240.trans (congrArg some (by kernel_rfl))
  t0 := Tryz.underlying0
  a0 := Tryz.isAgg0
  z0 := Tryz.sizeOf0
  v0 := Tryz.zeroValue0
  t3 := Tryz.underlying3
  a3 := Tryz.isAgg3
  z3 := Tryz.sizeOf3
  v3 := Tryz.zeroValue3
  t4 := Tryz.underlying4
  a4 := Tryz.isAgg4
  z4 := Tryz.sizeOf4
  v4 := Tryz.zeroValue4
  t5 := Tryz.underlying5
  a5 := Tryz.isAgg5
  z5 := Tryz.sizeOf5
  v5 := Tryz.zeroValue5
  t9 := Tryz.underlying9
  a9 := Tryz.isAgg9
  z9 := Tryz.sizeOf9
  v9 := Tryz.zeroValue9
  t37 := Tryz.underlying26
  a37 := Tryz.isAgg26
  z37 := Tryz.sizeOf26
  v37 := Tryz.zeroValue26
  t51 := Tryz.underlying327
  a51 := Tryz.isAgg327
  z51 := Tryz.sizeOf327
  v51 := Tryz.zeroValue327
  t53 := Tryz.underlying214
  a53 := Tryz.isAgg214
  z53 := Tryz.sizeOf214
  v53 := Tryz.zeroValue214 }
open Go.RowKit Go.Sort Go.Lib in
/-- internal/strconv.formatBase10: "formatBase10 formats the decimal representation of u into a. The caller is responsible for ensuring that a is big enough to hold u. If a is too big, leading zeros will be filled in as needed.": THE ROW HOLDS u's DIGITS ('FmtInv .. 0 ..': every place t holds 'dg u (len - 1 - t)'); all else is as it was but for the count of draws. (LAID: no walk: one application.) -/
theorem Tryz.internal_strconv_formatBase10 (blk off cap : Nat) (u : Nat) (d : Array UInt8) (w : World) (hH : Holds (fun (b : UInt8) => Value.int .u8 (b.toNat : Int)) w blk off d) (hu : u < 10 ^ d.size) (hu64 : u < 18446744073709551616) (hsz : d.size < 4611686018427387904) :
    Calls Tryz.prog 240 #[.slice (some ⟨blk, off, none⟩) d.size cap, .int .u64 u] w fun e w' =>
      e = .returned (.tuple #[]) ∧ ∃ (n v' : Nat) (dk : Array UInt8), w' = (putRow (fun (b : UInt8) => Value.int .u8 (b.toNat : Int)) w blk off dk).drewN n ∧ FmtInv d.size u 0 v' dk := Any.internal_strconv_formatBase10 Tryz.lays285 blk off cap u d w hH hu hu64 hsz
def Tryz.laysM246_ren : Go.Shelf.Ren := ⟨fun | 246 => 249 | 283 => 238 | 284 => 239 | 285 => 240 | 286 => 241 | 129 => 234 | 317 => 250 | 318 => 251 | 319 => 252 | 320 => 253 | 337 => 257 | 338 => 258 | n => n, fun | 2 => 2 | 3 => 3 | 9 => 9 | 4 => 4 | 171 => 330 | 0 => 0 | 53 => 214 | 37 => 26 | 5 => 5 | 173 => 332 | 212 => 345 | 51 => 327 | 20 => 20 | 213 => 346 | 46 => 82 | 232 => 354 | 233 => 355 | n => n, fun | 17 => 1 | 18 => 2 | 19 => 3 | n => n⟩
def Tryz.laysM243_ren : Go.Shelf.Ren := ⟨fun | 243 => 236 | 246 => 249 | 283 => 238 | 284 => 239 | 285 => 240 | 286 => 241 | 129 => 234 | 317 => 250 | 318 => 251 | 319 => 252 | 320 => 253 | 337 => 257 | 338 => 258 | n => n, fun | 3 => 3 | 9 => 9 | 2 => 2 | 4 => 4 | 171 => 330 | 0 => 0 | 53 => 214 | 37 => 26 | 5 => 5 | 173 => 332 | 212 => 345 | 51 => 327 | 20 => 20 | 213 => 346 | 46 => 82 | 232 => 354 | 233 => 355 | n => n, fun | 17 => 1 | 18 => 2 | 19 => 3 | n => n⟩
def Tryz.laysM171_ren : Go.Shelf.Ren := ⟨fun | 171 => 217 | 243 => 236 | 246 => 249 | 283 => 238 | 284 => 239 | 285 => 240 | 286 => 241 | 129 => 234 | 317 => 250 | 318 => 251 | 319 => 252 | 320 => 253 | 337 => 257 | 338 => 258 | n => n, fun | 3 => 3 | 9 => 9 | 2 => 2 | 4 => 4 | 171 => 330 | 0 => 0 | 53 => 214 | 37 => 26 | 5 => 5 | 173 => 332 | 212 => 345 | 51 => 327 | 20 => 20 | 213 => 346 | 46 => 82 | 232 => 354 | 233 => 355 | n => n, fun | 17 => 1 | 18 => 2 | 19 => 3 | n => n⟩
theorem Tryz.laysM171 : Go.Proofs.LaysM.n171 Tryz.prog Tryz.laysM171_ren := {
  mixed := by kernel_rfl
  f129 := Tryz.func234.trans (congrArg some (by kernel_rfl))
  f171 := Tryz.func217.trans (congrArg some (by kernel_rfl))
  f243 := Tryz.func236.trans (congrArg some (by kernel_rfl))
  f246 := Tryz.func249.trans (congrArg some (by kernel_rfl))
  f283 := Tryz.func238.trans (congrArg some (by kernel_rfl))
  f284 := Tryz.func239.trans (congrArg some (by kernel_rfl))
  f285 := Tryz.func240.trans (congrArg some (by kernel_rfl))
  f286 := Tryz.func241.trans (congrArg some (by kernel_rfl))
  f317 := Tryz.func250.trans (congrArg some (by kernel_rfl))
  f318 := Tryz.func251.trans (congrArg some (by kernel_rfl))
  f319 := Tryz.func252.trans (congrArg some (by kernel_rfl))
  f320 := Tryz.func253.trans (congrArg some (by kernel_rfl))
  f337 := Tryz.func257.trans (congrArg some (by kernel_rfl))
  f338 := Tryz.func258.trans (congrArg some (by kernel_rfl))
  t0 := Tryz.underlying0
  a0 := Tryz.isAgg0
  z0 := Tryz.sizeOf0
  v0 := Tryz.zeroValue0
  t2 := Tryz.underlying2
  a2 := Tryz.isAgg2
  z2 := Tryz.sizeOf2
  v2 := Tryz.zeroValue2
  t3 := Tryz.underlying3
  a3 := Tryz.isAgg3
  z3 := Tryz.sizeOf3
  v3 := Tryz.zeroValue3
  t4 := Tryz.underlying4
  a4 := Tryz.isAgg4
  z4 := Tryz.sizeOf4
  v4 := Tryz.zeroValue4
  t5 := Tryz.underlying5
  a5 := Tryz.isAgg5
  z5 := Tryz.sizeOf5
  v5 := Tryz.zeroValue5
  t9 := Tryz.underlying9
  a9 := Tryz.isAgg9
  z9 := Tryz.sizeOf9
  v9 := Tryz.zeroValue9
  t20 := Tryz.underlying20
  a20 := Tryz.isAgg20
  z20 := Tryz.sizeOf20
  v20 := Tryz.zeroValue20
  t37 := Tryz.underlying26
  a37 := Tryz.isAgg26
  z37 := Tryz.sizeOf26
  v37 := Tryz.zeroValue26
  t46 := Tryz.underlying82
  a46 := Tryz.isAgg82
  z46 := Tryz.sizeOf82
  v46 := Tryz.zeroValue82
  t51 := Tryz.underlying327
  a51 := Tryz.isAgg327
  z51 := Tryz.sizeOf327
  v51 := Tryz.zeroValue327
  t53 := Tryz.underlying214
  a53 := Tryz.isAgg214
  z53 := Tryz.sizeOf214
  v53 := Tryz.zeroValue214
  t171 := Tryz.underlying330
  a171 := Tryz.isAgg330
  z171 := Tryz.sizeOf330
  v171 := Tryz.zeroValue330
  t173 := Tryz.underlying332
  a173 := Tryz.isAgg332
  z173 := Tryz.sizeOf332
  v173 := Tryz.zeroValue332
  t212 := Tryz.underlying345
  a212 := Tryz.isAgg345
  z212 := Tryz.sizeOf345
  v212 := Tryz.zeroValue345
  t213 := Tryz.underlying346
  a213 := Tryz.isAgg346
  z213 := Tryz.sizeOf346
  t232 := Tryz.underlying354
  a232 := Tryz.isAgg354
  z232 := Tryz.sizeOf354
  v232 := Tryz.zeroValue354
  t233 := Tryz.underlying355
  a233 := Tryz.isAgg355
  z233 := Tryz.sizeOf355
  v233 := Tryz.zeroValue355
  g17 := by kernel_rfl
  g18 := by kernel_rfl
  g19 := by kernel_rfl
  i0 := by kernel_rfl
  i2 := by kernel_rfl
  i3 := by kernel_rfl
  i4 := by kernel_rfl
  i5 := by kernel_rfl
  i9 := by kernel_rfl
  i20 := by kernel_rfl
  i37 := by kernel_rfl
  i46 := by kernel_rfl
  i51 := by kernel_rfl
  i53 := by kernel_rfl
  i171 := by kernel_rfl
  i173 := by kernel_rfl
  i212 := by kernel_rfl
  i232 := by kernel_rfl
  i233 := by kernel_rfl
  m17 := by kernel_rfl
  m18 := by kernel_rfl
  m19 := by kernel_rfl }
open Go.RowKit Go.Sort Go.Lib in
/-- strconv.Itoa: "Itoa is equivalent to FormatInt(int64(i), 10).": i's DECIMAL NUMERAL ('Lib.itoa': a '-' where i is negative, then the digits), FOR EVERY int. The world behind the call: the world before it, new blocks behind the heap (the library's 'var a [24]byte'), draws. (LAID: no walk: one application.) -/
theorem Tryz.strconv_Itoa (n : Int) (h0 : -9223372036854775808 ≤ n) (h1 : n ≤ 9223372036854775807) (w : World) (htab : Lib.TabIs Tryz.prog w "internal/strconv.uint64pow10" .u64 Lib.pow10Tab) :
    Calls Tryz.prog 217 #[.int .i64 n] w fun e w' => e = .returned (.string ⟨(Lib.itoa n).toArray⟩) ∧ ∃ k os, w' = grow (w.drewN k) os := Any.strconv_Itoa Tryz.laysM171 n h0 h1 w htab
end Go.Proofs

namespace Go.Proofs.YtmhaahcbmdhinaaGreatDoor
open Go.RowKit Go.Sort Go.Lib
set_option maxRecDepth 100000
set_option linter.unusedVariables false
set_option linter.unusedSimpArgs false
/-- The table of powers of ten, as its initialiser lays it. -/
def TabW (w : World) : Prop := Lib.TabIs Tryz.prog w "internal/strconv.uint64pow10" .u64 Lib.pow10Tab
theorem tabG : Tryz.prog.globalNamed "internal/strconv.uint64pow10" = some 1 := by kernel_rfl
theorem TabW.below {w w' : World} {B : Nat} (h : TabW w) (hb : Below B w w') (hB : w.heap.size ≤ B) : TabW w' := by
  exact Go.Joins.tab_stays tabG h hb hB
/-- A numeral's bytes. -/
def dig (u : Nat) : ByteArray := ⟨(Lib.decDigits u).toArray⟩
def StrPost (W : World) (s : ByteArray) (e : Ending) (w' : World) : Prop := e = .returned (.string s) ∧ Below W.heap.size W w'
theorem below_grow (w : World) (k : Nat) (os : Array Obj) : Below w.heap.size w (grow (w.drewN k) os) :=
  ⟨rfl, rfl, rfl, by simp [grow], fun i hi => by
    show (w.heap ++ os)[i]? = _
    rw [Array.getElem?_append_left hi]⟩
theorem holds0 (w : World) (T : TypeId) (nd : Nat) (hs : nd ≤ 24) : Holds (fun (b : UInt8) => Value.int .u8 (b.toNat : Int)) (w.alloc (.cells zeros24 T)) w.heap.size 0 (Array.replicate nd (0 : UInt8)) := fun j hj => by
  have hj' : j < nd := by simpa using hj
  refine ⟨?_, World.frozen?_alloc_new _ _ _ _⟩
  rw [World.cell?_alloc_new, zeros24_at _ (by omega), getElem!_pos _ j hj]
  simp
theorem fin0 (w : World) (o : Obj) (dk : Array UInt8) (k : Nat) : ∃ os, (putRow (fun (b : UInt8) => Value.int .u8 (b.toNat : Int)) (w.alloc o) w.heap.size 0 dk).drewN k = grow (w.drewN k) os := by
  rw [alloc_eq_grow]
  obtain ⟨os', _, e⟩ := putRow_grow_new (fun (b : UInt8) => Value.int .u8 (b.toNat : Int)) w #[o] w.heap.size 0 dk (Nat.le_refl _)
  exact ⟨os', by rw [e]; rfl⟩
set_option maxHeartbeats 1600000 in
theorem fmt_inner (u : Nat) (hu64 : u < 18446744073709551616) (w : World) (htab : TabW w) :
    Calls Tryz.prog 220 #[.int .u64 u, .int .i64 10] w (StrPost w (dig u)) := by
  by_cases hs : u < 100
  · have hw : IntKind.i64.wrap (u : Int) = (u : Int) := by rw [IntKind.wrap_i64]; omega
    have H : ∀ W, Calls Tryz.prog 238 #[.int .i64 (u : Int)] W fun e w' => e = .returned (.string (dig u)) ∧ w' = W := fun W => Tryz.internal_strconv_small u hs W
    have HH := Lib.hid H
    clear H
    go_enter Tryz.func220, Tryz.ntmps220
    go_wp2_with fail
    refine (HH.out _).mono ?_
    rintro e w' ⟨rfl, rfl⟩
    go_wp2_with fail
    go_ret
    exact ⟨rfl, Below.refl _ _⟩
  · have hu1 : 1 ≤ u := by omega
    have hu100 : 100 ≤ u := by omega
    have hnd20 : Lib.nDigits u ≤ 20 := by have := Lib.numDigits_eq u hu1 hu64; split at this <;> omega
    have hb3 : Lib.nDigits u ≤ 23 := by omega
    have hal : Tryz.prog.arrayLen 330 = 24 := by kernel_rfl
    have hel : Tryz.prog.underlying 330 = some (.array 24 5) := Tryz.underlying330
    have hsl1 : ∀ W, (Instr.sliceAt 330 (.pointer (some ⟨w.heap.size, 0, none⟩)) none (some (.int .i64 (Lib.nDigits u : Int))) none).run Tryz.prog W = .ok (.slice (some ⟨w.heap.size, 0, none⟩) (Lib.nDigits u) 24) W := fun W => by
      rw [run_sliceAt_array_h W 330 ⟨w.heap.size, 0, none⟩ (by simp [Program.arrayLen, Program.elem, hel]) .i64 (Lib.nDigits u : Int) (by omega) (by rw [hal]; omega)]
      go_simp
    have hH0 := holds0 w 330 (Lib.nDigits u) (by omega)
    have hfmt := Tryz.internal_strconv_formatBase10 w.heap.size 0 24 u (Array.replicate (Lib.nDigits u) 0) (w.alloc (.cells Lib.zeros24 330)) hH0 (by rw [Array.size_replicate]; exact Lib.lt_pow_nDigits u) hu64 (by rw [Array.size_replicate]; omega)
    rw [Array.size_replicate] at hfmt
    have hnd := Tryz.internal_strconv_numDigits u hu1 hu64 (w.alloc (.cells Lib.zeros24 330)) (Lib.tabIs_alloc htab _)
    have HH0 := Lib.hid hH0
    have Hfmt := Lib.hid hfmt
    have Hnd := Lib.hid hnd
    clear hH0 hal hfmt hnd hel
    go_enter Tryz.func220, Tryz.ntmps220
    go_wp2_with fail
    refine Hnd.out.mono ?_
    rintro e w' ⟨rfl, rfl⟩
    go_wp2_with fail
    refine Hfmt.out.mono ?_
    rintro e w' ⟨rfl, k, v', dk, rfl, hF⟩
    have hcv : (convert 26 9 (.slice (some ⟨w.heap.size, 0, none⟩) (Lib.nDigits u) 24)).run Tryz.prog ((putRow (fun (b : UInt8) => Value.int .u8 (b.toNat : Int)) (w.alloc (.cells Lib.zeros24 330)) w.heap.size 0 dk).drewN k) = .ok (.string (dig u)) ((putRow (fun (b : UInt8) => Value.int .u8 (b.toNat : Int)) (w.alloc (.cells Lib.zeros24 330)) w.heap.size 0 dk).drewN k) := by
      have h := run_convert_bytes_back (P := Tryz.prog) ((putRow (fun (b : UInt8) => Value.int .u8 (b.toNat : Int)) (w.alloc (.cells Lib.zeros24 330)) w.heap.size 0 dk).drewN k) 26 9 5 ⟨w.heap.size, 0, none⟩ 24 (Lib.decDigits u) Tryz.underlying26 Tryz.underlying5 Tryz.underlying9 (fun j hj => by
        rw [Lib.row_is_numeral hF j hj, Lib.add_plain, World.cell?_drewN]
        exact cell?_putRow (fun (b : UInt8) => Value.int .u8 (b.toNat : Int)) _ w.heap.size 0 _ dk HH0.out (by rw [hF.size, Array.size_replicate]) j (by rw [hF.size]; rw [Lib.decDigits_length] at hj; exact hj))
      rw [Lib.decDigits_length] at h
      exact h
    go_wp2_with fail
    go_ret
    obtain ⟨os, eo⟩ := fin0 w (.cells Lib.zeros24 330) dk k
    refine ⟨rfl, ?_⟩
    rw [eo]
    exact below_grow w k os
set_option maxHeartbeats 800000 in
theorem fmt_any (u : Nat) (hu64 : u < 18446744073709551616) (w : World) (htab : TabW w) :
    Calls Tryz.prog 189 #[.int .u64 u, .int .i64 10] w (StrPost w (dig u)) := by
  have h := fmt_inner u hu64 w htab
  have H := Lib.hid h
  clear h
  go_enter Tryz.func189, Tryz.ntmps189
  go_wp2_with fail
  refine H.out.mono ?_
  rintro e w' ⟨rfl, hb⟩
  go_wp2_with fail
  go_ret
  exact ⟨rfl, hb⟩
theorem itoa_any (n : Nat) (hn : n ≤ 9223372036854775807) (w : World) (htab : TabW w) :
    Calls Tryz.prog 217 #[.int .i64 n] w (StrPost w (dig n)) := by
  refine (Tryz.strconv_Itoa (n : Int) (by omega) (by omega) w htab).mono ?_
  rintro e w' ⟨rfl, k, os, rfl⟩
  refine ⟨?_, below_grow w k os⟩
  rw [Lib.itoa_nonneg]
  rfl
end Go.Proofs.YtmhaahcbmdhinaaGreatDoor

namespace Go.Proofs.YtmhaahcbmdhinaaGreatDoor
open Go.RowKit
set_option maxRecDepth 100000
set_option linter.unusedVariables false
set_option linter.unusedSimpArgs false
/-- Block p is a writer that has laid the bytes l. -/
structure Wr (W : World) (B p : Nat) (l : List UInt8) : Prop where
  ex : ∃ A n c, W.heap[p]? = some (.cells #[.slice A n c] 275 (0, 0)) ∧ B ≤ p ∧ W.ownsRow B 5 1 (.slice A n c) n (bs l)
theorem own_ne {W : World} {B p e t size n c : Nat} {A : Option Addr} {xs : List Value} {cs : Array Value} (h : W.ownsRow B e size (.slice A n c) n xs) (hp : W.heap[p]? = some (.cells cs t (0, 0))) (hne : t ≠ e) : A.map (·.block) ≠ some p := by
  rcases h.2 with ⟨h1, _⟩ | ⟨g, cap, cur, h1, _, h3, _⟩
  · injection h1 with h1; subst h1; simp
  · injection h1 with h1
    subst h1
    intro e2
    injection e2 with e2
    dsimp only at e2
    subst e2
    rw [hp] at h3
    injection h3 with h3
    injection h3 with _ h3
    exact hne h3
theorem Wr.below {W W' : World} {B p : Nat} {l : List UInt8} (h : Wr W B p l) (hb : Below W.heap.size W W') : Wr W' B p l := by
  obtain ⟨A, n, c, h1, h2, h3⟩ := h.ex
  exact ⟨A, n, c, (hb.block p (Array.getElem?_eq_some_iff.1 h1).1).trans h1, h2, own_below h3 hb⟩
theorem wpList_append_str {P : Program} (w : World) {ops : Array Oper} {rest : List Oper} {o : Oper} {a : Act} {Q : Exit → Act → World → Prop} {sl x : Operand} {t u e : TypeId}
    (ht : P.underlying t = some (.slice e)) (hu : P.underlying u = some .string) (he : Elem P e (.int .u8 0) 1 1)
    (hgd : o.guard = none) (ho : o.op = .call { callee := .builtin .append, args := #[sl, x], argTypes := #[t, u] })
    {base : Nat} {A0 : Option Addr} {n c0 : Nat} {l : List UInt8} (hs : a.eval sl = .slice A0 n c0) (hown : w.ownsRow base e 1 (.slice A0 n c0) n (bs l)) {s : ByteArray} (hx : a.eval x = .string s)
    (hbytes : n + s.size ≤ 35184372088832) (hbase : base ≤ w.heap.size) {k : Nat} {m : List UInt8} (hk : n + s.size = k) (hm : l ++ s.data.toList = m)
    (h : ∀ A' c' w', w'.ownsRow base e 1 (.slice A' k c') k (bs m) → w.grownBy w' (A0.map (·.block)) → wpList P ops Q rest (a.put o.dst (.slice A' k c')) w') : wpList P ops Q (o :: rest) a w := by
  obtain ⟨i, hi, hz, hsize, hby⟩ := info_parts he
  refine Lib.wpList_append_own_string w hgd sl x t u ho base e i ht hu hi hz hsize hby _ n (bs l) hs hown s hx (by unfold maxLen; omega) (by omega) hbase ?_
  intro v' w' h1 h2 _
  obtain ⟨A', c', rfl, _⟩ := own_form h1
  subst hk hm
  have e1 : (Value.slice A0 n c0).ownBlock = A0.map (·.block) := by cases A0 <;> rfl
  rw [e1] at h2
  refine h A' c' w' ?_ h2
  have e2 : bs (l ++ s.data.toList) = bs l ++ Lib.strCells s := by rw [bs_append]; rfl
  rw [e2]
  exact h1
theorem keepP {w w1 : World} {p : Nat} {o o' : Obj} {row : Option Nat} (h : w.heap[p]? = some o) (hg : (w.alloc o').grownBy w1 row) (hne : row ≠ some p) : w1.heap[p]? = some o := by
  have hl := (Array.getElem?_eq_some_iff.1 h).1
  exact (hg.block p (by simp; omega) (fun e => hne e.symm)).trans ((Below.heap_alloc w o' p hl).trans h)
theorem keepQ {w w1 : World} {p : Nat} {o : Obj} {row : Option Nat} (h : w.heap[p]? = some o) (hg : w.grownBy w1 row) (hne : row ≠ some p) : w1.heap[p]? = some o := by
  have hl := (Array.getElem?_eq_some_iff.1 h).1
  exact (hg.block p hl (fun e => hne e.symm)).trans h
theorem box_cell {w : World} {p : Nat} {v : Value} {t : TypeId} (h : w.heap[p]? = some (.cells #[v] t (0, 0))) : w.cell? ⟨p, 0, none⟩ = some v ∧ w.frozen? ⟨p, 0, none⟩ = false :=
  ⟨cell_of_row w p 0 _ _ (0, 0) h, by simp [World.frozen?, h]⟩
def WrPost (w : World) (B p : Nat) (l : List UInt8) (e : Ending) (w' : World) : Prop := e = .returned (.pointer (some ⟨p, 0, none⟩)) ∧ Wr w' B p l ∧ Below B w w'
/-- A row that is appended to, and stored in its box. -/
theorem Wr.store {W W' : World} {B p k c n c' : Nat} {A A' : Option Addr} {l : List UInt8} (h1 : W.heap[p]? = some (.cells #[.slice A n c] 275 (0, 0))) (h2 : B ≤ p) (ho : W'.ownsRow B 5 1 (.slice A' k c') k (bs l)) (hg : W'.heap[p]? = W.heap[p]?) :
    Wr (W'.setCell ⟨p, 0, none⟩ (.slice A' k c')) B p l := by
  have hp := hg.trans h1
  have hne := own_ne ho hp (by decide)
  refine ⟨A', k, c', by simp [World.setCell, Array.getElem?_modify, hp], h2, ?_⟩
  refine ho.kept (row := some p) ⟨rfl, rfl, rfl, by simp [World.setCell], fun i _ hi => Below.heap_setCell _ _ _ i (fun e => hi (by rw [e]))⟩ ?_
  cases A' with
  | none => exact .inl rfl
  | some a => exact .inr hne
set_option maxHeartbeats 1600000 in
theorem lay_any (B p : Nat) (l : List UInt8) (c d : UInt8) (s : ByteArray) (w : World) (h : Wr w B p l) (hn : l.length + s.size ≤ 1099511627776) :
    Calls Tryz.prog 188 #[.pointer (some ⟨p, 0, none⟩), .int .u8 (c.toNat : Int), .string s, .int .u8 (d.toNat : Int)] w (WrPost w B p (l ++ [c] ++ s.data.toList ++ [d])) := by
  obtain ⟨A, n, cp, h1, h2, h3⟩ := h.ex
  have hpl := (Array.getElem?_eq_some_iff.1 h1).1
  have hln : l.length = n := by have := h3.1; rw [bs_length] at this; omega
  have hne := own_ne h3 h1 (by decide)
  have hbl := own_lt h3
  have c0 : w.cell? ⟨p, 0, none⟩ = some (.slice A n cp) := cell_of_row w p 0 _ _ (0, 0) h1
  have f0 : w.frozen? ⟨p, 0, none⟩ = false := by simp [World.frozen?, h1]
  have H1 := Lib.hid h1
  have H3 := Lib.hid h3
  have Hne := Lib.hid hne
  have Hbl := Lib.hid hbl
  have Hln := Lib.hid hln
  have hn' : n + s.size ≤ 1099511627776 := by omega
  clear h h1 h3 hne hbl hn hln
  go_enter Tryz.func188, Tryz.ntmps188
  go_wp2_with (first
    | (at_builtin; refine wpList_append_any (s := .tmp 15) (news := bs [c]) _ Tryz.underlying26 u8_elem rfl (by omega) rfl rfl rfl (own_below H3.out ((Below.refl _ _).alloc (Nat.le_refl _) _)) rfl (show Rd (w.alloc (.cells #[.int .u8 (c.toNat : Int)] 5)) T 1 (some ⟨w.heap.size, 0, none⟩) 1 (bs [c]) from (Rd.lit rfl).any) (bs_one _) (by omega) (by simp; omega) rfl (bs_append l [c]).symm ?_; intro A1 c1 w1 hown1 hg1 hat1; have K1 := Lib.hid (keepP H1.out hg1 Hne.out); clear hat1)
    | (at_builtin; refine wpList_append_str (sl := .tmp 18) _ Tryz.underlying26 Tryz.underlying9 u8_elem rfl rfl rfl hown1 rfl (by omega) (by have := hg1.size; simp at this; omega) rfl rfl ?_; intro A2 c2 w2 hown2 hg2; have K2 := Lib.hid (keepQ K1.out hg2 (own_ne hown1 K1.out (by decide))))
    | (at_builtin; refine wpList_append_any (s := .tmp 20) (news := bs [d]) _ Tryz.underlying26 u8_elem rfl (by omega) rfl rfl rfl (own_below hown2 ((Below.refl _ _).alloc (Nat.le_refl _) _)) rfl (show Rd (w2.alloc (.cells #[.int .u8 (d.toNat : Int)] 5)) T 1 (some ⟨w2.heap.size, 0, none⟩) 1 (bs [d]) from (Rd.lit rfl).any) (bs_one _) (by omega) (by have := hg1.size; have := hg2.size; simp at *; omega) rfl (bs_append _ [d]).symm ?_; intro A3 c3 w3 hown3 hg3 hat3; have K3 := Lib.hid (keepP K2.out hg3 (own_ne hown2 K2.out (by decide))); obtain ⟨q0, q1⟩ := box_cell K3.out; clear hat3))
  go_ret
  refine ⟨rfl, Wr.store H1.out h2 hown3 (K3.out.trans H1.out.symm), ?_⟩
  have b1 := ((Below.refl B w).alloc (by omega) (.cells #[.int .u8 (c.toNat : Int)] 5)).grown hg1 (by simp; omega) (fun q hq => (Hbl.out q hq).1)
  have b2 := b1.grown hg2 (Nat.le_trans (by omega) b1.size) (fun q hq => (own_lt hown1 q hq).1)
  have b3 := (b2.alloc (by have := b2.size; omega) (.cells #[.int .u8 (d.toNat : Int)] 5)).grown hg3 (by have := b2.size; simp; omega) (fun q hq => (own_lt hown2 q hq).1)
  exact b3.setCell h2 _
theorem new_any (w : World) : Calls Tryz.prog 137 #[] w (fun e w' => e = .returned (.pointer (some ⟨w.heap.size, 0, none⟩)) ∧ Wr w' w.heap.size w.heap.size [] ∧ Below w.heap.size w w') := by
  go_enter Tryz.func137, Tryz.ntmps137
  go_wp2_with fail
  go_ret
  exact ⟨rfl, ⟨none, 0, 0, heap_alloc_new _ _, Nat.le_refl _, own_nil _ _ _ _ _ rfl⟩, (Below.refl _ _).alloc (Nat.le_refl _) _⟩
theorem WrPost.up {w w1 w' : World} {B p : Nat} {l : List UInt8} {e : Ending} (h : WrPost w1 B p l e w') (hb : Below w.heap.size w w1) (hB : B ≤ w.heap.size) : WrPost w B p l e w' :=
  ⟨h.1, h.2.1, (hb.mono hB).trans h.2.2⟩
def uintL (u : Nat) : List UInt8 := 110 :: (Lib.decDigits u ++ [59])
def bytesL (d : List UInt8) : List UInt8 := 98 :: (Lib.decDigits d.length ++ 58 :: d)
theorem dig_size (u : Nat) (hu : u < 18446744073709551616) : (dig u).size ≤ 20 := by
  have e1 : (dig u).size = Lib.nDigits u := by rw [← Lib.decDigits_length]; rfl
  rw [e1]
  by_cases h0 : u = 0
  · subst h0; rw [Lib.nDigits_small (by omega)]; omega
  · have := Lib.numDigits_eq u (by omega) hu; split at this <;> omega
set_option maxHeartbeats 800000 in
theorem uint_any (B p : Nat) (l : List UInt8) (u : Nat) (hu : u < 18446744073709551616) (w : World) (h : Wr w B p l) (hn : l.length ≤ 549755813888) (htab : TabW w) (hB : B ≤ w.heap.size) :
    Calls Tryz.prog 138 #[.pointer (some ⟨p, 0, none⟩), .int .u64 u] w (WrPost w B p (l ++ uintL u)) := by
  have hf := fmt_any u hu w htab
  have hd := dig_size u hu
  have hl : ∀ w1, Below w.heap.size w w1 → Calls Tryz.prog 188 #[.pointer (some ⟨p, 0, none⟩), .int .u8 110, .string (dig u), .int .u8 59] w1 (WrPost w1 B p (l ++ uintL u)) := fun w1 hb => by
    have := lay_any B p l 110 59 (dig u) w1 (h.below hb) (by omega)
    have e : l ++ [110] ++ (dig u).data.toList ++ [59] = l ++ uintL u := by simp [uintL, dig]
    rw [e] at this
    exact this
  have Hf := Lib.hid hf
  have Hl := Lib.hid hl
  clear hf hl h htab
  go_enter Tryz.func138, Tryz.ntmps138
  go_wp2_with fail
  refine Hf.out.mono ?_
  rintro e w1 ⟨rfl, hb⟩
  go_wp2_with fail
  refine (Hl.out _ hb).mono ?_
  rintro e w2 ⟨rfl, h2, hb2⟩
  go_wp2_with fail
  go_ret
  exact ⟨rfl, h2, (hb.mono hB).trans hb2⟩
set_option maxHeartbeats 800000 in
theorem done_any (B p : Nat) (l : List UInt8) (w : World) (h : Wr w B p l) (hn : l.length ≤ 17592186044416) :
    Calls Tryz.prog 139 #[.pointer (some ⟨p, 0, none⟩)] w (fun e w' => ∃ A c, e = .returned (.slice A l.length c) ∧ w'.ownsRow w.heap.size 5 1 (.slice A l.length c) l.length (bs l) ∧ Below w.heap.size w w') := by
  obtain ⟨A, n, c, k1, k2, k3⟩ := h.ex
  obtain ⟨q0, q1⟩ := box_cell k1
  obtain rfl : l.length = n := by have := k3.1; rw [bs_length] at this; omega
  have hc := fun W (hb : Below w.heap.size w W) => clone_any A l.length c (bs l) W ((Rd.of_own k3).below hb) (bs_one _) (by omega)
  have Hc := Lib.hid hc
  clear h k1 k3 hc
  go_enter Tryz.func139, Tryz.ntmps139
  go_wp2_with fail
  refine (Hc.out _ (Below.refl _ _)).mono ?_
  rintro e w1 ⟨A', c', rfl, h1, hb⟩
  go_wp2_with fail
  go_ret
  exact ⟨A', c', rfl, h1, hb⟩
end Go.Proofs.YtmhaahcbmdhinaaGreatDoor

namespace Go.Proofs.YtmhaahcbmdhinaaGreatDoor
open Go.RowKit
set_option maxRecDepth 100000
set_option linter.unusedVariables false
set_option linter.unusedSimpArgs false
/-- A piece of the digits' text. -/
def d10 : ByteArray := { data := #[48, 49, 50, 51, 52, 53, 54, 55, 56, 57] }
def LayR (W : World) (l : List UInt8) (e : Ending) (w' : World) : Prop := ∃ A n c, e = .returned (.slice A n c) ∧ w'.ownsRow W.heap.size 5 1 (.slice A n c) n (bs l) ∧ Below W.heap.size W w'
theorem LayR.up {w w1 w' : World} {l : List UInt8} {e : Ending} (hb : Below w.heap.size w w1) (h : ∃ A n c, e = .returned (.slice A n c) ∧ w'.ownsRow w1.heap.size 5 1 (.slice A n c) n (bs l) ∧ Below w1.heap.size w1 w') : LayR w l e w' := by
  obtain ⟨A, n, c, h1, h2, h3⟩ := h
  refine ⟨A, n, c, h1, ⟨h2.1, ?_⟩, hb.trans (h3.mono hb.size)⟩
  rcases h2.2 with hn | ⟨g, cap, cur, hv, hB, rest⟩
  · exact .inl hn
  · exact .inr ⟨g, cap, cur, hv, Nat.le_trans hb.size hB, rest⟩
end Go.Proofs.YtmhaahcbmdhinaaGreatDoor

