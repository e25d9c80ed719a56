/- slices.Clone at bytes.
   Rows of three integers and a byte slice (entries, items, acts): cells, and what comes in.
   Plain law of logs of entries: no program in sight.
   Walk of entry.right
   Walks: whether members may be: conf.Check, and the document's May
   Contracts of the library's sort and compaction at this dump: laid by the kit's own commands in plain words. -/
import Derived.Test.YtmhaahcbmdhinaaGreatDoorRows
import Derived.Test.YtmhaahcbmdhinaaGreatDoorZM0
import Derived.RegionTactic
import Derived.Deep.LoopGhost
import Derived.Deep.DeepCutAuto
import Derived.BigQuiet
import Derived.Shelf.Small.Bits
import Derived.Shelf.Strconv.Itoa0
import Derived.Shelf.Strconv.Itoa1
import Derived.Shelf.LaysM
import Derived.Shelf.Strconv.Itoa2
import Derived.Shelf.Strconv.Itoa3
import Derived.Ground.MpProg
import Derived.Shelf.Pu.ParseUintPublic10
import Derived.Shelf.Pu.ErrVarParseUint
import Derived.Shelf.Sort.Plain
import Derived.Shelf.Slices.In.SortNone
import Derived.Ground.SlgfProg
import Derived.Shelf.SlicesE.IndexFunc
import Derived.Test.YtmhaahcbmdhinaaGreatDoorProg
namespace Go.Proofs.YtmhaahcbmdhinaaGreatDoor
open Go.RowKit
set_option linter.unusedVariables false
set_option linter.unusedSimpArgs false
theorem u8_elem : Elem Tryz.prog 5 (.int .u8 0) 1 1 := by unfold Elem; kernel_rfl
theorem eqlB (w : World) (A : Option Addr) (n c : Nat) : (binOp .eql 26 (.slice A n c) (.slice none 0 0)).run Tryz.prog w = .ok (.bool A.isNone) w := Lib.run_eql_slice_nil w 26 5 A n c 0 0 Tryz.underlying26
attribute [local go_sem] eqlB
theorem clone_any (A : Option Addr) (n c : Nat) (xs : List Value) (w : World) {ok : Nat → Prop} (hr : Rd w ok 1 A n xs) (h1 : ∀ u ∈ xs, u.oneCell' = true) (hn : n ≤ 35184372088832) :
  Calls Tryz.prog 98 #[.slice A n c] w fun e w' => ∃ A' c', e = .returned (.slice A' n c') ∧ w'.ownsRow w.heap.size 5 1 (.slice A' n c') n xs ∧ Below w.heap.size w w' := by
 cases A with
 | none =>
  obtain ⟨rfl, rfl⟩ := hr.nil_of_none
  go_enter Tryz.func98, Tryz.ntmps98
  go_wp2_with fail
  go_ret
  exact ⟨_, _, rfl, ⟨by simp, .inl ⟨rfl, rfl⟩⟩, Below.refl _ _⟩
 | some ad =>
  go_enter Tryz.func98, Tryz.ntmps98
  go_wp2_with (at_builtin; refine wpList_append_any _ Tryz.underlying26 u8_elem rfl (by omega) rfl rfl rfl (own_new w w.heap.size 5 1 (Nat.le_refl _)) rfl (hr.alloc _) h1 (by omega) (by simp) (Nat.zero_add _) (List.nil_append _) ?_; intro A1 c1 w1 hown1 hg1 hat1)
  go_ret
  exact ⟨_, _, rfl, hown1, ((Below.refl _ _).alloc (Nat.le_refl _) _).grown hg1 (by simp) (by simp)⟩
end Go.Proofs.YtmhaahcbmdhinaaGreatDoor
namespace Go.Proofs.YtmhaahcbmdhinaaGreatDoor
open Go.ChangeShapes Go.WideShapes Go.ChangeAt Go.RowKit Go.Joins Go.Deep
set_option linter.unusedVariables false
set_option linter.unusedSimpArgs false
structure Er where
 a : Int
 b : Int
 c : Int
 A : Option Addr
 n : Nat
 m : Nat
 d : List UInt8
def ecell (x : Er) : List Value := [.int .i64 x.a, .int .i64 x.b, .int .i64 x.c, .slice x.A x.n x.m]
theorem ecell_len (x : Er) : (ecell x).length = 4 := rfl
theorem er_cells {w : World} {ok : Nat → Prop} {n : Nat} {A : Option Addr} {l : List Er} (h : Rd w ok 4 A n (flat ecell l)) {j : Nat} (hj : j < n) : ∃ b o x, A = some ⟨b, o, none⟩ ∧ ok b ∧ b < w.heap.size ∧ l[j]? = some x ∧
  w.cell? ⟨b, o + j * 4, none⟩ = some (.int .i64 x.a) ∧ w.cell? ⟨b, o + j * 4 + 1, none⟩ = some (.int .i64 x.b) ∧ w.cell? ⟨b, o + j * 4 + 2, none⟩ = some (.int .i64 x.c) ∧ w.cell? ⟨b, o + j * 4 + 3, none⟩ = some (.slice x.A x.n x.m) := by
 obtain ⟨b, o, x, hA, hb, hlt, hx, hc⟩ := h.fat ecell_len (by omega) hj
 exact ⟨b, o, x, hA, hb, hlt, hx, hc 0 _ rfl, hc 1 _ rfl, hc 2 _ rfl, hc 3 _ rfl⟩
def Dat (w : World) (l : List Er) : Prop := ∀ x ∈ l, Rd w T 1 x.A x.n (bs x.d) ∧ x.n ≤ x.m ∧ x.m ≤ maxLen
theorem Dat.below {w w' : World} {l : List Er} (h : Dat w l) (hb : Below w.heap.size w w') : Dat w' l := fun x hx => ⟨(h x hx).1.below hb, (h x hx).2⟩
def W64 (x : Er) : Prop := I64 x.a ∧ I64 x.b ∧ I64 x.c
end Go.Proofs.YtmhaahcbmdhinaaGreatDoor
namespace Go.Proofs.YtmhaahcbmdhinaaGreatDoor
set_option linter.unusedVariables false
set_option linter.unusedSimpArgs false
structure En where
 a : Int
 b : Int
 c : Int
 d : List UInt8
def en (x : Er) : En := ⟨x.a, x.b, x.c, x.d⟩
def okE (ix tm : Int) (i : Nat) (e : En) : Bool := decide (1 ≤ e.a) && decide (e.a - i - 1 = ix) && decide (e.a ≤ 1099511627776) && decide (tm ≤ e.b) && decide (1 ≤ e.b) && decide (e.b ≤ 1099511627776) && decide (0 ≤ e.c) && decide (e.c ≤ 2) && decide (e.d.length ≤ 4096)
def rgt (ix : Int) : Int → Nat → List En → Bool
 | _, _, [] => true
 | tm, i, e :: l => okE ix tm i e && rgt ix e.b (i + 1) l
def lmay (b t : Int) (l : List En) : Bool := (decide (b = 0) && decide (t = 0) || decide (1 ≤ b) && decide (b ≤ 1099511627776) && decide (1 ≤ t) && decide (t ≤ 1099511627776)) && decide (l.length ≤ 4096) && rgt b t 0 l
def lstA (b : Int) (l : List En) : Int := (l.getLast?.map (·.a)).getD b
def lstB (t : Int) (l : List En) : Int := (l.getLast?.map (·.b)).getD t
theorem okE_iff {ix tm : Int} {i : Nat} {e : En} : okE ix tm i e = true ↔ 1 ≤ e.a ∧ e.a - i - 1 = ix ∧ e.a ≤ 1099511627776 ∧ tm ≤ e.b ∧ 1 ≤ e.b ∧ e.b ≤ 1099511627776 ∧ 0 ≤ e.c ∧ e.c ≤ 2 ∧ e.d.length ≤ 4096 := by
 unfold okE
 simp only [Bool.and_eq_true, decide_eq_true_eq, and_assoc]
theorem rgt_step {ix tm : Int} {i : Nat} {l : List En} {e : En} (h : l[i]? = some e) : rgt ix tm i (l.drop i) = (okE ix tm i e && rgt ix e.b (i + 1) (l.drop (i + 1))) := by
 obtain ⟨hi, he⟩ := List.getElem?_eq_some_iff.1 h
 rw [List.drop_eq_getElem_cons hi, he]
 rfl
theorem lstA_len {b : Int} {l : List En} (h : 0 < l.length) : ∃ e, l[l.length - 1]? = some e ∧ lstA b l = e.a ∧ ∀ t, lstB t l = e.b := by
 have := List.getLast?_eq_getElem? (l := l)
 rw [List.getElem?_eq_getElem (by omega)] at this
 exact ⟨_, List.getElem?_eq_getElem (by omega), by unfold lstA; rw [this]; rfl, fun t => by unfold lstB; rw [this]; rfl⟩
end Go.Proofs.YtmhaahcbmdhinaaGreatDoor
namespace Go.Proofs.YtmhaahcbmdhinaaGreatDoor
open Go.RowKit
set_option maxRecDepth 100000
set_option linter.unusedVariables false
set_option linter.unusedSimpArgs false
def BoolPost (W : World) (b : Bool) (e : Ending) (w' : World) : Prop := e = .returned (.bool b) ∧ Below W.heap.size W w'
theorem ret_bool {a b : Bool} (h : a = b) : Ending.returned (.bool a) = .returned (.bool b) := by rw [h]
def Wel (L : List Er) : Prop := ∀ x ∈ L, W64 x ∧ x.n = x.d.length
theorem rgt_no {ix tj : Int} {j : Nat} {e : En} {r Q : Bool} (hs : Q = (okE ix tj j e && r)) (h : ¬ okE ix tj j e = true) : Q = false := by
 rw [hs]
 simp only [Bool.not_eq_true] at h
 rw [h, Bool.false_and]
theorem rgt_yes {ix tj : Int} {j : Nat} {e : En} {r Q : Bool} (hs : Q = (okE ix tj j e && r)) (h : okE ix tj j e = true) : r = Q := by
 rw [hs, h, Bool.true_and]
set_option maxHeartbeats 4000000 in
theorem right_any (ix tm : Int) (A : Option Addr) (n c : Nat) (L : List Er) (w : World) {ok : Nat → Prop} (hr : Rd w ok 4 A n (flat ecell L)) (hw : Wel L) (hn : n ≤ 1000000) :
  Calls Tryz.prog 120 #[.int .i64 ix, .int .i64 tm, .slice A n c] w (BoolPost w (rgt ix tm 0 (L.map en))) := by
 have hll := hr.flen ecell_len (by omega)
 obtain ⟨Q, hQ⟩ : ∃ Q, rgt ix tm 0 (L.map en) = Q := ⟨_, rfl⟩
 rw [hQ]
 have HQ := Lib.hid hQ
 have Hll := Lib.hid hll
 have Hw := Lib.hid hw
 clear hQ hll hw
 go_enter Tryz.func120, Tryz.ntmps120
 go_wp2_with fail
 go_loopg [1, 7, 8, 11] n (fun m s1 s7 s8 s11 wr => ∃ (j : Nat) (tj : Int), m = n - j ∧ j ≤ n ∧ s11 = .int .i64 j ∧ s1 = .int .i64 tj ∧ rgt ix tj j ((L.map en).drop j) = Q ∧ Below w.heap.size w wr)
 case atStart => exact ⟨0, tm, by omega, by omega, rfl, rfl, HQ.out, Below.refl _ _⟩
 case round =>
  obtain ⟨j, tj, hm, hj, rfl, rfl, hq, hb⟩ := hrel
  have Hm := Lib.hid hm
  have Hq := Lib.hid hq
  have Hb := Lib.hid hb
  clear hm hq hb
  by_cases hlt : j < n
  ·obtain ⟨b, o, x, rfl, _, hbl, hx, c0, c1, c2, c3⟩ := er_cells (hr.below Hb.out) hlt
   have hjI : (j : Int) < n := by omega
   have hwx := Hw.out x (List.mem_of_getElem? hx)
   have hs := rgt_step (ix := ix) (tm := tj) (l := L.map en) (i := j) (e := en x) (by rw [List.getElem?_map, hx]; rfl)
   rw [Hq.out] at hs
   have Hs := Lib.hid hs
   have hxa := hwx.1.1
   have hxn := hwx.2
   have Hxn := Lib.hid hxn
   unfold I64 at hxa
   clear hx hs hwx hxn
   by_cases t1 : x.a < 1
   ·have hf : Q = false := rgt_no Hs.out fun h => by
     have h' : 1 ≤ x.a ∧ x.a - j - 1 = ix ∧ x.a ≤ 1099511627776 ∧ tj ≤ x.b ∧ 1 ≤ x.b ∧ x.b ≤ 1099511627776 ∧ 0 ≤ x.c ∧ x.c ≤ 2 ∧ x.d.length ≤ 4096 := okE_iff.1 h
     have := Hxn.out
     try simp only [bne_iff_ne, ne_eq] at *
     omega
    have Hf := Lib.hid hf
    clear hf
    go_wp2_with fail
    all_goals
     go_ret
     exact ⟨ret_bool Hf.out.symm, Hb.out.alloc Hb.out.size _⟩
   ·have t1d : decide (x.a < 1) = false := decide_eq_false t1
    have w1 : IntKind.i64.wrap (x.a - (j : Int)) = x.a - j := by rw [IntKind.wrap_i64]; omega
    have w2 : IntKind.i64.wrap (x.a - (j : Int) - 1) = x.a - j - 1 := by rw [IntKind.wrap_i64]; omega
    by_cases t2 : (x.a - (j : Int) - 1 != ix) = true
    ·have hf : Q = false := rgt_no Hs.out fun h => by
      have h' : 1 ≤ x.a ∧ x.a - j - 1 = ix ∧ x.a ≤ 1099511627776 ∧ tj ≤ x.b ∧ 1 ≤ x.b ∧ x.b ≤ 1099511627776 ∧ 0 ≤ x.c ∧ x.c ≤ 2 ∧ x.d.length ≤ 4096 := okE_iff.1 h
      have := Hxn.out
      try simp only [bne_iff_ne, ne_eq] at *
      omega
     have Hf := Lib.hid hf
     clear hf
     go_wp2_with fail
     all_goals
      go_ret
      exact ⟨ret_bool Hf.out.symm, Hb.out.alloc Hb.out.size _⟩
    ·have t2d : (x.a - (j : Int) - 1 != ix) = false := by simpa using t2
     have t2e : x.a - (j : Int) - 1 = ix := by simpa using t2d
     have T2 := Lib.hid t2e
     clear t2e
     by_cases t3 : 1099511627776 < x.a
     ·have hf : Q = false := rgt_no Hs.out fun h => by
       have h' : 1 ≤ x.a ∧ x.a - j - 1 = ix ∧ x.a ≤ 1099511627776 ∧ tj ≤ x.b ∧ 1 ≤ x.b ∧ x.b ≤ 1099511627776 ∧ 0 ≤ x.c ∧ x.c ≤ 2 ∧ x.d.length ≤ 4096 := okE_iff.1 h
       have := Hxn.out
       try simp only [bne_iff_ne, ne_eq] at *
       omega
      have Hf := Lib.hid hf
      clear hf
      go_wp2_with fail
      all_goals
       go_ret
       exact ⟨ret_bool Hf.out.symm, Hb.out.alloc Hb.out.size _⟩
     ·have t3d : decide (1099511627776 < x.a) = false := decide_eq_false t3
      by_cases t4 : x.b < tj
      ·have hf : Q = false := rgt_no Hs.out fun h => by
        have h' : 1 ≤ x.a ∧ x.a - j - 1 = ix ∧ x.a ≤ 1099511627776 ∧ tj ≤ x.b ∧ 1 ≤ x.b ∧ x.b ≤ 1099511627776 ∧ 0 ≤ x.c ∧ x.c ≤ 2 ∧ x.d.length ≤ 4096 := okE_iff.1 h
        have := Hxn.out
        try simp only [bne_iff_ne, ne_eq] at *
        omega
       have Hf := Lib.hid hf
       clear hf
       go_wp2_with fail
       all_goals
        go_ret
        exact ⟨ret_bool Hf.out.symm, Hb.out.alloc Hb.out.size _⟩
      ·have t4d : decide (x.b < tj) = false := decide_eq_false t4
       by_cases t4b : x.b < 1
       ·have hf : Q = false := rgt_no Hs.out fun h => by
         have h' : 1 ≤ x.a ∧ x.a - j - 1 = ix ∧ x.a ≤ 1099511627776 ∧ tj ≤ x.b ∧ 1 ≤ x.b ∧ x.b ≤ 1099511627776 ∧ 0 ≤ x.c ∧ x.c ≤ 2 ∧ x.d.length ≤ 4096 := okE_iff.1 h
         have := Hxn.out
         try simp only [bne_iff_ne, ne_eq] at *
         omega
        have Hf := Lib.hid hf
        clear hf
        go_wp2_with fail
        all_goals
         go_ret
         exact ⟨ret_bool Hf.out.symm, Hb.out.alloc Hb.out.size _⟩
       ·have t4bd : decide (x.b < 1) = false := decide_eq_false t4b
        by_cases t5 : 1099511627776 < x.b
        ·have hf : Q = false := rgt_no Hs.out fun h => by
          have h' : 1 ≤ x.a ∧ x.a - j - 1 = ix ∧ x.a ≤ 1099511627776 ∧ tj ≤ x.b ∧ 1 ≤ x.b ∧ x.b ≤ 1099511627776 ∧ 0 ≤ x.c ∧ x.c ≤ 2 ∧ x.d.length ≤ 4096 := okE_iff.1 h
          have := Hxn.out
          try simp only [bne_iff_ne, ne_eq] at *
          omega
         have Hf := Lib.hid hf
         clear hf
         go_wp2_with fail
         all_goals
          go_ret
          exact ⟨ret_bool Hf.out.symm, Hb.out.alloc Hb.out.size _⟩
        ·have t5d : decide (1099511627776 < x.b) = false := decide_eq_false t5
         by_cases t6 : x.c < 0
         ·have hf : Q = false := rgt_no Hs.out fun h => by
           have h' : 1 ≤ x.a ∧ x.a - j - 1 = ix ∧ x.a ≤ 1099511627776 ∧ tj ≤ x.b ∧ 1 ≤ x.b ∧ x.b ≤ 1099511627776 ∧ 0 ≤ x.c ∧ x.c ≤ 2 ∧ x.d.length ≤ 4096 := okE_iff.1 h
           have := Hxn.out
           try simp only [bne_iff_ne, ne_eq] at *
           omega
          have Hf := Lib.hid hf
          clear hf
          go_wp2_with fail
          all_goals
           go_ret
           exact ⟨ret_bool Hf.out.symm, Hb.out.alloc Hb.out.size _⟩
         ·have t6d : decide (x.c < 0) = false := decide_eq_false t6
          by_cases t7 : 2 < x.c
          ·have hf : Q = false := rgt_no Hs.out fun h => by
            have h' : 1 ≤ x.a ∧ x.a - j - 1 = ix ∧ x.a ≤ 1099511627776 ∧ tj ≤ x.b ∧ 1 ≤ x.b ∧ x.b ≤ 1099511627776 ∧ 0 ≤ x.c ∧ x.c ≤ 2 ∧ x.d.length ≤ 4096 := okE_iff.1 h
            have := Hxn.out
            try simp only [bne_iff_ne, ne_eq] at *
            omega
           have Hf := Lib.hid hf
           clear hf
           go_wp2_with fail
           all_goals
            go_ret
            exact ⟨ret_bool Hf.out.symm, Hb.out.alloc Hb.out.size _⟩
          ·have t7d : decide (2 < x.c) = false := decide_eq_false t7
           by_cases t8 : 4096 < (x.n : Int)
           ·have hf : Q = false := rgt_no Hs.out fun h => by
             have h' : 1 ≤ x.a ∧ x.a - j - 1 = ix ∧ x.a ≤ 1099511627776 ∧ tj ≤ x.b ∧ 1 ≤ x.b ∧ x.b ≤ 1099511627776 ∧ 0 ≤ x.c ∧ x.c ≤ 2 ∧ x.d.length ≤ 4096 := okE_iff.1 h
             have := Hxn.out
             try simp only [bne_iff_ne, ne_eq] at *
             omega
            have Hf := Lib.hid hf
            clear hf
            go_wp2_with fail
            all_goals
             go_ret
             exact ⟨ret_bool Hf.out.symm, Hb.out.alloc Hb.out.size _⟩
           ·have t8d : decide (4096 < (x.n : Int)) = false := decide_eq_false t8
            have hok : okE ix tj j (en x) = true := okE_iff.2 (by
             show 1 ≤ x.a ∧ x.a - j - 1 = ix ∧ x.a ≤ 1099511627776 ∧ tj ≤ x.b ∧ 1 ≤ x.b ∧ x.b ≤ 1099511627776 ∧ 0 ≤ x.c ∧ x.c ≤ 2 ∧ x.d.length ≤ 4096
             have := Hxn.out
             have := T2.out
             omega)
            have hq2 := rgt_yes Hs.out hok
            have Hq2 := Lib.hid hq2
            clear hok hq2
            go_wp2_with fail
            all_goals
             go_roundg (n - (j + 1))
             case measure => have := Hm.out; omega
             case rel => exact ⟨j + 1, x.b, rfl, by omega, by go_num, rfl, Hq2.out, Hb.out.alloc Hb.out.size _⟩
  ·obtain rfl : j = n := by omega
   have hf : Q = true := by
    rw [← Hq.out, List.drop_of_length_le (by simp [Hll.out])]
    rfl
   have Hf := Lib.hid hf
   clear hf
   go_wp2_with fail
   go_ret
   exact ⟨ret_bool Hf.out.symm, Hb.out⟩
def IntPost (W : World) (z : Int) (e : Ending) (w' : World) : Prop := e = .returned (.int .i64 z) ∧ Below W.heap.size W w'
theorem ret_int {a b : Int} (h : a = b) : Ending.returned (.int .i64 a) = .returned (.int .i64 b) := by rw [h]
theorem int_elem : Elem Tryz.prog 3 (.int .i64 0) 1 8 := by unfold Elem; kernel_rfl
theorem ii_one (l : List Int) : ∀ u ∈ ii l, u.oneCell' = true := by
 intro u hu
 obtain ⟨z, _, rfl⟩ := List.mem_map.1 hu
 rfl
theorem ii_cell {w : World} {ok : Nat → Prop} {n : Nat} {A : Option Addr} {l : List Int} (h : Rd w ok 1 A n (ii l)) {j : Nat} (hj : j < n) : ∃ b o z, A = some ⟨b, o, none⟩ ∧ ok b ∧ b < w.heap.size ∧ l[j]? = some z ∧ w.cell? ⟨b, o + j, none⟩ = some (.int .i64 z) := by
 obtain ⟨b, o, e, hb, hlt, hc⟩ := h.plain (by omega) (by omega)
 have hl : l.length = n := by have := h.1; simpa [ii] using this
 exact ⟨b, o, l[j]'(by omega), e, hb, hlt, List.getElem?_eq_getElem (by omega), hc j _ (by simp [ii, List.getElem?_eq_getElem (show j < l.length by omega)])⟩
theorem ii_len {w : World} {ok : Nat → Prop} {n : Nat} {A : Option Addr} {l : List Int} (h : Rd w ok 1 A n (ii l)) : l.length = n := by have := h.1; simpa [ii] using this
def SameBool (W : World) (b : Bool) (e : Ending) (w' : World) : Prop := e = .returned (.bool b) ∧ W = w'
theorem incr_cons (a x : Int) (l : List Int) : incr a (x :: l) = (decide (a < x) && decide (x ≤ 64) && incr x l) := rfl
theorem drop_at {l : List Int} {j : Nat} {x : Int} (h : l[j]? = some x) : l.drop j = x :: l.drop (j + 1) := by
 obtain ⟨hj, rfl⟩ := List.getElem?_eq_some_iff.1 h
 rw [List.drop_eq_getElem_cons hj]
theorem cmay_any (A : Option Addr) (n c : Nat) (l : List Int) (w : World) {ok : Nat → Prop} (hr : Rd w ok 1 A n (ii l)) (hn : n ≤ 1000000) :
  Calls Tryz.prog 122 #[.slice A n c] w (SameBool w (cmay l)) := by
 have Hl := Lib.hid (ii_len hr)
 go_enter Tryz.func122, Tryz.ntmps122
 go_wp2_with fail
 go_loopg [3, 5, 8] n (fun m s3 s5 s8 wr => ∃ (j : Nat) (a : Int), m = n - j ∧ j ≤ n ∧ s8 = .int .i64 j ∧ s3 = .int .i64 a ∧ incr 0 l = incr a (l.drop j) ∧ wr = w)
 case atStart => exact ⟨0, 0, by omega, by omega, rfl, rfl, rfl, rfl⟩
 case round =>
  obtain ⟨j, a, hm, hj, rfl, rfl, hin, rfl⟩ := hrel
  have Hm := Lib.hid hm
  have Hin := Lib.hid hin
  clear hm hin
  by_cases hlt : j < n
  ·obtain ⟨b, o, x, rfl, _, _, hx, hc⟩ := ii_cell hr hlt
   have Hx := Lib.hid hx
   clear hx
   have hltI : (j : Int) < n := by omega
   by_cases h1 : x ≤ a
   ·have hf : cmay l = false := by
     unfold cmay
     rw [Hin.out, drop_at Hx.out, incr_cons, decide_eq_false (by omega)]
     rfl
    have Hf := Lib.hid hf
    clear hf
    go_wp2_with fail
    go_ret
    exact ⟨ret_bool (by rw [Hf.out]), rfl⟩
   ·by_cases h2 : 64 < x
    ·have hf : cmay l = false := by
      unfold cmay
      rw [Hin.out, drop_at Hx.out, incr_cons, decide_eq_false (p := x ≤ 64) (by omega)]
      simp
     have Hf := Lib.hid hf
     clear hf
     go_wp2_with fail
     go_ret
     exact ⟨ret_bool (by rw [Hf.out]), rfl⟩
    ·have hf : incr 0 l = incr x (l.drop (j + 1)) := by
      rw [Hin.out, drop_at Hx.out, incr_cons, decide_eq_true (by omega), decide_eq_true (p := x ≤ 64) (by omega)]
      rfl
     have Hf := Lib.hid hf
     clear hf
     go_wp2_with fail
     go_roundg (n - (j + 1))
     case measure => have := Hm.out; omega
     case rel => exact ⟨j + 1, x, rfl, by omega, by go_num, rfl, Hf.out, rfl⟩
  ·obtain rfl : j = n := by omega
   have hf0 : cmay l = (decide (1 ≤ j) && decide (j ≤ 7)) := by
    unfold cmay
    rw [Hin.out, Hl.out, List.drop_of_length_le (Nat.le_of_eq Hl.out)]
    simp [incr]
   by_cases h1 : (1 : Int) ≤ j
   ·by_cases h2 : (j : Int) ≤ 7
    ·have hf : cmay l = true := by rw [hf0, decide_eq_true (by omega), decide_eq_true (by omega)]; rfl
     have Hf := Lib.hid hf
     clear hf hf0
     go_wp2_with fail
     go_ret
     exact ⟨ret_bool (by rw [Hf.out]), rfl⟩
    ·have hf : cmay l = false := by rw [hf0, decide_eq_false (p := j ≤ 7) (by omega), Bool.and_false]
     have Hf := Lib.hid hf
     clear hf hf0
     go_wp2_with fail
     go_ret
     exact ⟨ret_bool (by rw [Hf.out]), rfl⟩
   ·have hf : cmay l = false := by rw [hf0, decide_eq_false (p := 1 ≤ j) (by omega), Bool.false_and]
    have Hf := Lib.hid hf
    clear hf hf0
    go_wp2_with fail
    go_ret
    exact ⟨ret_bool (by rw [Hf.out]), rfl⟩
def ChPost (W : World) (b : Bool) (e : Ending) (w' : World) : Prop := e = .returned (if b then .nilIface else .iface 105 (.int .i64 1)) ∧ W = w'
theorem chk_any (A : Option Addr) (n c : Nat) (l : List Int) (w : World) {ok : Nat → Prop} (hr : Rd w ok 1 A n (ii l)) (hn : n ≤ 1000000) :
  Calls Tryz.prog 94 #[.slice A n c] w (ChPost w (cmay l)) := by
 have hmay := cmay_any A n c l w hr hn
 generalize cmay l = q at hmay
 have Hmay := Lib.hid hmay
 clear hr hmay
 go_enter Tryz.func94, Tryz.ntmps94
 go_wp2_with fail
 refine Hmay.out.mono ?_
 rintro e w1 ⟨rfl, rfl⟩
 cases q
 all_goals
  go_wp2_with fail
  go_ret
  exact ⟨rfl, rfl⟩
end Go.Proofs.YtmhaahcbmdhinaaGreatDoor
namespace Go.Proofs
open Go.Shelf
def Tryz.lays283_ren : Go.Shelf.Ren := ⟨fun | 283 => 238 | n => n, fun | 3 => 3 | 9 => 9 | 4 => 4 | n => n, fun | n => n⟩
theorem Tryz.lays283 : Go.Proofs.Lays.n283 Tryz.prog Tryz.lays283_ren := {
 mixed := by kernel_rfl
 f283 := Tryz.func238.trans (congrArg some (by kernel_rfl))
 t3 := Tryz.underlying3
 a3 := Tryz.isAgg3
 z3 := Tryz.sizeOf3
 v3 := Tryz.zeroValue3
 t4 := Tryz.underlying4
 a4 := Tryz.isAgg4
 z4 := Tryz.sizeOf4
 v4 := Tryz.zeroValue4
 t9 := Tryz.underlying9
 a9 := Tryz.isAgg9
 z9 := Tryz.sizeOf9
 v9 := Tryz.zeroValue9 }
open Go.Lib in
/-- internal/strconv.small: "small returns the string for an i with 0 <= i < nSmalls.": i's decimal numeral. The world is as it was. (LAID: no walk: one application.) -/
theorem Tryz.internal_strconv_small (i : Nat) (h : i < 100) (w : World) :
  Calls Tryz.prog 238 #[.int .i64 i] w fun e w' => e = .returned (.string ⟨(Lib.decDigits i).toArray⟩) ∧ w' = w := Any.internal_strconv_small Tryz.lays283 i h w
def Tryz.laysM284_ren : Go.Shelf.Ren := ⟨fun | 284 => 239 | 129 => 234 | 317 => 250 | 318 => 251 | n => n, fun | 53 => 214 | 3 => 3 | 212 => 345 | 0 => 0 | 4 => 4 | 46 => 82 | 5 => 5 | 9 => 9 | n => n, fun | 17 => 1 | n => n⟩
theorem Tryz.laysM284 : Go.Proofs.LaysM.n284 Tryz.prog Tryz.laysM284_ren := {
 mixed := by kernel_rfl
 f129 := Tryz.func234.trans (congrArg some (by kernel_rfl))
 f284 := Tryz.func239.trans (congrArg some (by kernel_rfl))
 f317 := Tryz.func250.trans (congrArg some (by kernel_rfl))
 f318 := Tryz.func251.trans (congrArg some (by kernel_rfl))
 t0 := Tryz.underlying0
 a0 := Tryz.isAgg0
 z0 := Tryz.sizeOf0
 v0 := Tryz.zeroValue0
 t3 := Tryz.underlying3
 a3 := Tryz.isAgg3
 z3 := Tryz.sizeOf3
 v3 := Tryz.zeroValue3
 t4 := Tryz.underlying4
 a4 := Tryz.isAgg4
 z4 := Tryz.sizeOf4
 v4 := Tryz.zeroValue4
 t5 := Tryz.underlying5
 a5 := Tryz.isAgg5
 z5 := Tryz.sizeOf5
 v5 := Tryz.zeroValue5
 t9 := Tryz.underlying9
 a9 := Tryz.isAgg9
 z9 := Tryz.sizeOf9
 v9 := Tryz.zeroValue9
 t46 := Tryz.underlying82
 a46 := Tryz.isAgg82
 z46 := Tryz.sizeOf82
 v46 := Tryz.zeroValue82
 t53 := Tryz.underlying214
 a53 := Tryz.isAgg214
 z53 := Tryz.sizeOf214
 v53 := Tryz.zeroValue214
 t212 := Tryz.underlying345
 a212 := Tryz.isAgg345
 z212 := Tryz.sizeOf345
 v212 := Tryz.zeroValue345
 g17 := by kernel_rfl
 i0 := by kernel_rfl
 i3 := by kernel_rfl
 i4 := by kernel_rfl
 i5 := by kernel_rfl
 i9 := by kernel_rfl
 i46 := by kernel_rfl
 i53 := by kernel_rfl
 i212 := by kernel_rfl
 m17 := by kernel_rfl }
open Go.Lib in
/-- internal/strconv.numDigits, at a d that is not 0: THE NUMBER OF d's DECIMAL DIGITS. The world is as it was. (LAID: no walk: one application.) -/
theorem Tryz.internal_strconv_numDigits (u : Nat) (h1 : 1 ≤ u) (h2 : u < 18446744073709551616) (w : World) (htab : Lib.TabIs Tryz.prog w "internal/strconv.uint64pow10" .u64 Lib.pow10Tab) :
  Calls Tryz.prog 239 #[.int .u64 u] w fun e w' => e = .returned (.int .i64 (Lib.nDigits u)) ∧ w' = w := Any.internal_strconv_numDigits Tryz.laysM284 u h1 h2 w htab
def Tryz.lays285_ren : Go.Shelf.Ren := ⟨fun | 285 => 240 | n => n, fun | 37 => 26 | 53 => 214 | 3 => 3 | 4 => 4 | 51 => 327 | 9 => 9 | 5 => 5 | 0 => 0 | n => n, fun | n => n⟩
theorem Tryz.lays285 : Go.Proofs.Lays.n285 Tryz.prog Tryz.lays285_ren := {
 mixed := by kernel_rfl
 f285 := Tryz.func240.trans (congrArg some (by kernel_rfl))
 t0 := Tryz.underlying0
 a0 := Tryz.isAgg0
 z0 := Tryz.sizeOf0
 v0 := Tryz.zeroValue0
 t3 := Tryz.underlying3
 a3 := Tryz.isAgg3
 z3 := Tryz.sizeOf3
 v3 := Tryz.zeroValue3
 t4 := Tryz.underlying4
 a4 := Tryz.isAgg4
 z4 := Tryz.sizeOf4
 v4 := Tryz.zeroValue4
 t5 := Tryz.underlying5
 a5 := Tryz.isAgg5
 z5 := Tryz.sizeOf5
 v5 := Tryz.zeroValue5
 t9 := Tryz.underlying9
 a9 := Tryz.isAgg9
 z9 := Tryz.sizeOf9
 v9 := Tryz.zeroValue9
 t37 := Tryz.underlying26
 a37 := Tryz.isAgg26
 z37 := Tryz.sizeOf26
 v37 := Tryz.zeroValue26
 t51 := Tryz.underlying327
 a51 := Tryz.isAgg327
 z51 := Tryz.sizeOf327
 v51 := Tryz.zeroValue327
 t53 := Tryz.underlying214
 a53 := Tryz.isAgg214
 z53 := Tryz.sizeOf214
 v53 := Tryz.zeroValue214 }
open Go.RowKit Go.Sort Go.Lib in
/-- internal/strconv.formatBase10: "formatBase10 formats the decimal representation of u into a. The caller is responsible for ensuring that a is big enough to hold u. If a is too big, leading zeros will be filled in as needed.": THE ROW HOLDS u's DIGITS ('FmtInv .. 0 ..': every place t holds 'dg u (len - 1 - t)'); all else is as it was but for the count of draws. (LAID: no walk: one application.) -/
theorem Tryz.internal_strconv_formatBase10 (blk off cap : Nat) (u : Nat) (d : Array UInt8) (w : World) (hH : Holds (fun (b : UInt8) => Value.int .u8 (b.toNat : Int)) w blk off d) (hu : u < 10 ^ d.size) (hu64 : u < 18446744073709551616) (hsz : d.size < 4611686018427387904) :
  Calls Tryz.prog 240 #[.slice (some ⟨blk, off, none⟩) d.size cap, .int .u64 u] w fun e w' =>
   e = .returned (.tuple #[]) ∧ ∃ (n v' : Nat) (dk : Array UInt8), w' = (putRow (fun (b : UInt8) => Value.int .u8 (b.toNat : Int)) w blk off dk).drewN n ∧ FmtInv d.size u 0 v' dk := Any.internal_strconv_formatBase10 Tryz.lays285 blk off cap u d w hH hu hu64 hsz
def Tryz.laysM246_ren : Go.Shelf.Ren := ⟨fun | 246 => 249 | 283 => 238 | 284 => 239 | 285 => 240 | 286 => 241 | 129 => 234 | 317 => 250 | 318 => 251 | 319 => 252 | 320 => 253 | 337 => 257 | 338 => 258 | n => n, fun | 2 => 2 | 3 => 3 | 9 => 9 | 4 => 4 | 171 => 330 | 0 => 0 | 53 => 214 | 37 => 26 | 5 => 5 | 173 => 332 | 212 => 345 | 51 => 327 | 20 => 20 | 213 => 346 | 46 => 82 | 232 => 354 | 233 => 355 | n => n, fun | 17 => 1 | 18 => 2 | 19 => 3 | n => n⟩
def Tryz.laysM243_ren : Go.Shelf.Ren := ⟨fun | 243 => 236 | 246 => 249 | 283 => 238 | 284 => 239 | 285 => 240 | 286 => 241 | 129 => 234 | 317 => 250 | 318 => 251 | 319 => 252 | 320 => 253 | 337 => 257 | 338 => 258 | n => n, fun | 3 => 3 | 9 => 9 | 2 => 2 | 4 => 4 | 171 => 330 | 0 => 0 | 53 => 214 | 37 => 26 | 5 => 5 | 173 => 332 | 212 => 345 | 51 => 327 | 20 => 20 | 213 => 346 | 46 => 82 | 232 => 354 | 233 => 355 | n => n, fun | 17 => 1 | 18 => 2 | 19 => 3 | n => n⟩
def Tryz.laysM171_ren : Go.Shelf.Ren := ⟨fun | 171 => 217 | 243 => 236 | 246 => 249 | 283 => 238 | 284 => 239 | 285 => 240 | 286 => 241 | 129 => 234 | 317 => 250 | 318 => 251 | 319 => 252 | 320 => 253 | 337 => 257 | 338 => 258 | n => n, fun | 3 => 3 | 9 => 9 | 2 => 2 | 4 => 4 | 171 => 330 | 0 => 0 | 53 => 214 | 37 => 26 | 5 => 5 | 173 => 332 | 212 => 345 | 51 => 327 | 20 => 20 | 213 => 346 | 46 => 82 | 232 => 354 | 233 => 355 | n => n, fun | 17 => 1 | 18 => 2 | 19 => 3 | n => n⟩
theorem Tryz.laysM171 : Go.Proofs.LaysM.n171 Tryz.prog Tryz.laysM171_ren := {
 mixed := by kernel_rfl
 f129 := Tryz.func234.trans (congrArg some (by kernel_rfl))
 f171 := Tryz.func217.trans (congrArg some (by kernel_rfl))
 f243 := Tryz.func236.trans (congrArg some (by kernel_rfl))
 f246 := Tryz.func249.trans (congrArg some (by kernel_rfl))
 f283 := Tryz.func238.trans (congrArg some (by kernel_rfl))
 f284 := Tryz.func239.trans (congrArg some (by kernel_rfl))
 f285 := Tryz.func240.trans (congrArg some (by kernel_rfl))
 f286 := Tryz.func241.trans (congrArg some (by kernel_rfl))
 f317 := Tryz.func250.trans (congrArg some (by kernel_rfl))
 f318 := Tryz.func251.trans (congrArg some (by kernel_rfl))
 f319 := Tryz.func252.trans (congrArg some (by kernel_rfl))
 f320 := Tryz.func253.trans (congrArg some (by kernel_rfl))
 f337 := Tryz.func257.trans (congrArg some (by kernel_rfl))
 f338 := Tryz.func258.trans (congrArg some (by kernel_rfl))
 t0 := Tryz.underlying0
 a0 := Tryz.isAgg0
 z0 := Tryz.sizeOf0
 v0 := Tryz.zeroValue0
 t2 := Tryz.underlying2
 a2 := Tryz.isAgg2
 z2 := Tryz.sizeOf2
 v2 := Tryz.zeroValue2
 t3 := Tryz.underlying3
 a3 := Tryz.isAgg3
 z3 := Tryz.sizeOf3
 v3 := Tryz.zeroValue3
 t4 := Tryz.underlying4
 a4 := Tryz.isAgg4
 z4 := Tryz.sizeOf4
 v4 := Tryz.zeroValue4
 t5 := Tryz.underlying5
 a5 := Tryz.isAgg5
 z5 := Tryz.sizeOf5
 v5 := Tryz.zeroValue5
 t9 := Tryz.underlying9
 a9 := Tryz.isAgg9
 z9 := Tryz.sizeOf9
 v9 := Tryz.zeroValue9
 t20 := Tryz.underlying20
 a20 := Tryz.isAgg20
 z20 := Tryz.sizeOf20
 v20 := Tryz.zeroValue20
 t37 := Tryz.underlying26
 a37 := Tryz.isAgg26
 z37 := Tryz.sizeOf26
 v37 := Tryz.zeroValue26
 t46 := Tryz.underlying82
 a46 := Tryz.isAgg82
 z46 := Tryz.sizeOf82
 v46 := Tryz.zeroValue82
 t51 := Tryz.underlying327
 a51 := Tryz.isAgg327
 z51 := Tryz.sizeOf327
 v51 := Tryz.zeroValue327
 t53 := Tryz.underlying214
 a53 := Tryz.isAgg214
 z53 := Tryz.sizeOf214
 v53 := Tryz.zeroValue214
 t171 := Tryz.underlying330
 a171 := Tryz.isAgg330
 z171 := Tryz.sizeOf330
 v171 := Tryz.zeroValue330
 t173 := Tryz.underlying332
 a173 := Tryz.isAgg332
 z173 := Tryz.sizeOf332
 v173 := Tryz.zeroValue332
 t212 := Tryz.underlying345
 a212 := Tryz.isAgg345
 z212 := Tryz.sizeOf345
 v212 := Tryz.zeroValue345
 t213 := Tryz.underlying346
 a213 := Tryz.isAgg346
 z213 := Tryz.sizeOf346
 t232 := Tryz.underlying354
 a232 := Tryz.isAgg354
 z232 := Tryz.sizeOf354
 v232 := Tryz.zeroValue354
 t233 := Tryz.underlying355
 a233 := Tryz.isAgg355
 z233 := Tryz.sizeOf355
 v233 := Tryz.zeroValue355
 g17 := by kernel_rfl
 g18 := by kernel_rfl
 g19 := by kernel_rfl
 i0 := by kernel_rfl
 i2 := by kernel_rfl
 i3 := by kernel_rfl
 i4 := by kernel_rfl
 i5 := by kernel_rfl
 i9 := by kernel_rfl
 i20 := by kernel_rfl
 i37 := by kernel_rfl
 i46 := by kernel_rfl
 i51 := by kernel_rfl
 i53 := by kernel_rfl
 i171 := by kernel_rfl
 i173 := by kernel_rfl
 i212 := by kernel_rfl
 i232 := by kernel_rfl
 i233 := by kernel_rfl
 m17 := by kernel_rfl
 m18 := by kernel_rfl
 m19 := by kernel_rfl }
open Go.RowKit Go.Sort Go.Lib in
/-- strconv.Itoa: "Itoa is equivalent to FormatInt(int64(i), 10).": i's DECIMAL NUMERAL ('Lib.itoa': a '-' where i is negative, then the digits), FOR EVERY int. The world behind the call: the world before it, new blocks behind the heap (the library's 'var a [24]byte'), draws. (LAID: no walk: one application.) -/
theorem Tryz.strconv_Itoa (n : Int) (h0 : -9223372036854775808 ≤ n) (h1 : n ≤ 9223372036854775807) (w : World) (htab : Lib.TabIs Tryz.prog w "internal/strconv.uint64pow10" .u64 Lib.pow10Tab) :
  Calls Tryz.prog 217 #[.int .i64 n] w fun e w' => e = .returned (.string ⟨(Lib.itoa n).toArray⟩) ∧ ∃ k os, w' = grow (w.drewN k) os := Any.strconv_Itoa Tryz.laysM171 n h0 h1 w htab
end Go.Proofs
