/- Walks: members off bytes: conf.Decode.
   Walks: members off bytes: the document's Decode.
   Walks: whether the members' entries can be read: raft.readable, and the document's.
   Walks: raft.readable.
   Walk of tollbarref09.Behind
   Walks: whether a log may be, and its last entry: the program's and the document's -/
import Derived.Test.YtmhaahcbmdhinaaGreatDoorZM2
import Derived.Test.YtmhaahcbmdhinaaGreatDoorZM4
import Derived.Test.YtmhaahcbmdhinaaGreatDoorZM1
import Derived.Test.YtmhaahcbmdhinaaGreatDoorRows
import Derived.RegionTactic
import Derived.Deep.LoopGhost
import Derived.Deep.DeepCutAuto
import Derived.BigQuiet
namespace Go.Proofs.YtmhaahcbmdhinaaGreatDoor
open Go.RowKit
set_option maxRecDepth 100000
set_option linter.unusedVariables false
set_option linter.unusedSimpArgs false
def confR : Nat → RdS → RdS × List Int
 | 0, s => (s, [])
 | m + 1, s => ((confR m (uintS 64 s).1).1, ((uintS 64 s).2 : Int) :: (confR m (uintS 64 s).1).2)
theorem confR_zero (s : RdS) : confR 0 s = (s, []) := rfl
theorem confR_succ (m : Nat) (s : RdS) : confR (m + 1) s = ((confR m (uintS 64 s).1).1, ((uintS 64 s).2 : Int) :: (confR m (uintS 64 s).1).2) := rfl
def confD (l : List UInt8) : Option (List Int) :=
 if doneS (confR (countS 7 (l, 0)).2 (countS 7 (l, 0)).1).1 = 0 ∧ cmay (confR (countS 7 (l, 0)).2 (countS 7 (l, 0)).1).2 = true then some (confR (countS 7 (l, 0)).2 (countS 7 (l, 0)).1).2 else none
theorem confD_eq {l : List UInt8} {s s' : RdS} {m : Nat} {xs : List Int} (h1 : countS 7 (l, 0) = (s, m)) (h2 : confR m s = (s', xs)) : confD l = if doneS s' = 0 ∧ cmay xs = true then some xs else none := by
 unfold confD; simp only [h1, h2]
theorem countS_le (most : Nat) (s : RdS) : (countS most s).2 ≤ most := by
 obtain ⟨⟨s', o⟩, hq⟩ : ∃ q, boundS most s = q := ⟨_, rfl⟩
 unfold countS
 rw [hq]
 rcases o with _ | ⟨u, k⟩
 ·exact Nat.zero_le _
 ·dsimp only
  split
  ·exact Nat.zero_le _
  ·exact (boundS_some hq).2.2.2.1
def CdPost (W : World) (er : Int → Value) : Option (List Int) → Ending → World → Prop
 | none, e, w' => e = .returned (.tuple #[.slice none 0 0, er 3]) ∧ Below W.heap.size W w'
 | some l, e, w' => ∃ A n c, e = .returned (.tuple #[.slice A n c, er 0]) ∧ w'.ownsRow W.heap.size 3 1 (.slice A n c) n (ii l) ∧ Below W.heap.size W w'
theorem CdPost_none (W : World) (er : Int → Value) (e : Ending) (w' : World) : CdPost W er none e w' = (e = .returned (.tuple #[.slice none 0 0, er 3]) ∧ Below W.heap.size W w') := rfl
theorem CdPost_some (W : World) (er : Int → Value) (l : List Int) (e : Ending) (w' : World) : CdPost W er (some l) e w' = (∃ A n c, e = .returned (.tuple #[.slice A n c, er 0]) ∧ w'.ownsRow W.heap.size 3 1 (.slice A n c) n (ii l) ∧ Below W.heap.size W w') := rfl
theorem ii_snoc (l : List Int) (z : Int) : ii (l ++ [z]) = ii l ++ [.int .i64 z] := by simp [ii]
theorem own_gb {W W' : World} {B e size n c m p : Nat} {A : Option Addr} {xs : List Value} (h : W.ownsRow B e size (.slice A n c) m xs) (hg : W.grownBy W' (some p)) (hp : p < B) : W'.ownsRow B e size (.slice A n c) m xs :=
 h.kept (row := some p) hg (.inr fun e => by have := (own_lt h p (by cases A with | none => simp [Value.ownBlock] at e | some a => simpa [Value.ownBlock] using e)).1; omega)
theorem Rr.up {W W' : World} {p : Nat} {s : RdS} (h : Rr W p s) (hb : Below (p + 1) W W') : Rr W' p s := by
 obtain ⟨A, n, c, h1, h2, h3⟩ := h.ex
 exact ⟨⟨A, n, c, (hb.block p (by omega)).trans h1, h2.keep fun b hb' _ => hb.block b (by omega), h3⟩, h.ev.below hb (by omega)⟩
set_option maxHeartbeats 1600000 in
theorem cdec_any (A : Option Addr) (n c : Nat) (l : List UInt8) (w : World) {ok : Nat → Prop} (hr : Rd w ok 1 A n (bs l)) (h1 : n ≤ c) (h2 : c ≤ maxLen) (hev : EvW w w.heap.size) :
  Calls Tryz.prog 114 #[.slice A n c] w (CdPost w errE (confD l)) := by
 have hread := read_any A n c l w hr h1 h2 hev
 obtain ⟨⟨s0, m⟩, hC⟩ : ∃ q, countS 7 (l, 0) = q := ⟨_, rfl⟩
 obtain ⟨⟨sz, xs⟩, hR⟩ : ∃ q, confR m s0 = q := ⟨_, rfl⟩
 have hD := confD_eq hC hR
 have hm : m ≤ 7 := by have := countS_le 7 (l, 0); rw [hC] at this; exact this
 have hcount : ∀ W, Rr W w.heap.size (l, 0) → Calls Tryz.prog 173 #[.pointer (some ⟨w.heap.size, 0, none⟩), .int .i64 7] W (RdPost W w.heap.size s0 (.int .i64 (m : Nat))) := fun W h => by have := count_rd _ _ 7 W h (by omega); rw [hC] at this; exact this
 have Hread := Lib.hid hread
 have HR := Lib.hid hR
 have HD := Lib.hid hD
 have Hcount := Lib.hid hcount
 clear hr hread hC hR hD hcount hev
 go_enter Tryz.func114, Tryz.ntmps114
 go_wp2_with fail
 refine Hread.out.mono ?_
 rintro e w1 ⟨rfl, R1, hb1⟩
 have G1 := Lib.hid (And.intro R1 hb1)
 clear R1 hb1
 go_wp2_with fail
 refine (Hcount.out w1 G1.out.1).mono ?_
 rintro e w2 ⟨rfl, R2, g2⟩
 have hb2 : Below w.heap.size w w2 := G1.out.2.trans (gb_below g2 G1.out.1.lt)
 go_wp2_with fail
 go_loopg [5, 10] m (fun k s5 s10 wr => ∃ (j : Nat) (s : RdS) (A3 : Option Addr) (c3 : Nat) (ys : List Int), k = m - j ∧ j ≤ m ∧ s10 = .int .i64 j ∧ s5 = .slice A3 j c3 ∧ wr.ownsRow (w.heap.size + 1) 3 1 (.slice A3 j c3) j (ii ys) ∧ Rr wr w.heap.size s ∧ (sz, xs) = ((confR (m - j) s).1, ys ++ (confR (m - j) s).2) ∧ Below w.heap.size w wr)
 case atStart => exact ⟨0, s0, none, 0, [], by omega, by omega, rfl, rfl, World.ownsRow_nil _ _ _ _, R2, by rw [Nat.sub_zero, HR.out, List.nil_append], hb2⟩
 case round =>
  obtain ⟨j, s, A3, c3, ys, hk, hj, rfl, rfl, ho, R, hrel, hb⟩ := hrel
  have Hk := Lib.hid hk
  have Hrel := Lib.hid hrel
  clear hk hrel R2 hb2 g2
  by_cases hlt : j < m
  ·have hltI : (j : Int) < m := by omega
   have hun := uint_rd _ s 64 wr R
   have ha := uintS_le 64 s
   have hstep : (sz, xs) = ((confR (m - (j + 1)) (uintS 64 s).1).1, (ys ++ [((uintS 64 s).2 : Int)]) ++ (confR (m - (j + 1)) (uintS 64 s).1).2) := by
    have := Hrel.out
    rw [show m - j = (m - (j + 1)) + 1 by omega, confR_succ] at this
    rw [this, List.append_assoc]
    rfl
   generalize uintS 64 s = q at hun ha hstep
   obtain ⟨s2, a⟩ := q
   dsimp only at hun ha hstep
   have wa : IntKind.i64.wrap (a : Int) = (a : Int) := by rw [IntKind.wrap_i64]; omega
   have hRp := R.lt
   have Hun := Lib.hid hun
   have Hstep := Lib.hid hstep
   have Ho := Lib.hid (And.intro ho hb)
   clear hun hstep ho hb R Hrel
   go_wp2_with fail
   refine Hun.out.mono ?_
   rintro e w3 ⟨rfl, R3, g3⟩
   have o3 := own_gb Ho.out.1 g3 (by omega)
   have hb3 : Below w.heap.size w w3 := Ho.out.2.trans (gb_below g3 hRp)
   have h3p := R3.lt
   go_wp2_with (at_builtin; go_loud (refine wpList_append_any (news := [.int .i64 (a : Nat)]) _ Tryz.underlying39 int_elem rfl (by omega) rfl rfl rfl (o3.alloc _) rfl (Rd.lit rfl).any (by intro u hu; simp only [List.mem_cons, List.not_mem_nil, or_false] at hu; rcases hu with rfl; rfl) (by omega) (by simp; omega) rfl rfl ?_; intro A1 c1 w4 hown1 hg1 hat1))
   have hb34 : Below (w.heap.size + 1) w3 w4 := ((Below.refl (w.heap.size + 1) w3).alloc (by omega) _).grown hg1 (by simp; omega) (fun k hk => (own_lt o3 k hk).1)
   have R4 := R3.up hb34
   have o4 : w4.ownsRow (w.heap.size + 1) 3 1 (.slice A1 (j + 1) c1) (j + 1) (ii (ys ++ [(a : Int)])) := by rw [ii_snoc]; exact hown1
   go_roundg (m - (j + 1))
   case measure => have := Hk.out; omega
   case rel => exact ⟨j + 1, s2, A1, c1, ys ++ [(a : Int)], rfl, by omega, by go_num, rfl, o4, R4, Hstep.out, hb3.trans (hb34.mono (Nat.le_succ _))⟩
  ·obtain rfl : j = m := by omega
   have hrel := Hrel.out
   rw [Nat.sub_self, confR_zero, List.append_nil] at hrel
   injection hrel with e1 e2
   subst e1 e2
   have hdn := done_rd _ _ wr R
   have hmy := cmay_any A3 j c3 xs wr (Rd.of_own ho) (by omega)
   have HD' := HD.out
   generalize doneS sz = ds at hdn HD'
   generalize cmay xs = q at hmy HD'
   have HD2 := Lib.hid HD'
   have Hdn := Lib.hid hdn
   have Hmy := Lib.hid hmy
   have Ho := Lib.hid (And.intro ho hb)
   clear hdn hmy HD' ho hb R Hrel HD
   by_cases hd0 : ds = 0
   ·subst hd0
    rw [errE0] at Hdn
    go_wp2_with fail
    refine Hdn.out.mono ?_
    rintro e w3 ⟨rfl, rfl⟩
    go_wp2_with fail
    refine Hmy.out.mono ?_
    rintro e w4 ⟨rfl, rfl⟩
    cases q
    ·have HZ := Lib.hid (show confD l = none by rw [HD2.out, if_neg (fun h => absurd h.2 (by decide))])
     clear HD2
     go_wp2_with fail
     go_ret2
     rw [HZ.out, CdPost_none]
     exact ⟨rfl, Ho.out.2⟩
    ·have HZ := Lib.hid (show confD l = some xs by rw [HD2.out, if_pos ⟨by trivial, rfl⟩])
     clear HD2
     go_wp2_with fail
     go_ret2
     rw [HZ.out, CdPost_some]
     exact ⟨_, _, _, rfl, own_dn Ho.out.1 (Nat.le_succ _), Ho.out.2⟩
   ·rw [errE_ne hd0] at Hdn
    have HZ := Lib.hid (show confD l = none by rw [HD2.out, if_neg (fun h => hd0 h.1)])
    clear HD2 hd0
    go_wp2_with fail
    refine Hdn.out.mono ?_
    rintro e w3 ⟨rfl, rfl⟩
    go_wp2_with fail
    go_ret2
    rw [HZ.out, CdPost_none]
    exact ⟨rfl, Ho.out.2⟩
def rbad (k : Int) (d : List UInt8) : Bool := (k == 2) && (confD d).isNone
def rdok (l : List Er) : Bool := l.all fun x => !rbad x.c x.d
theorem rdok_no {l : List Er} {j : Nat} {x : Er} (h : l[j]? = some x) (hb : rbad x.c x.d = true) : rdok l = false := by
 unfold rdok
 rw [List.all_eq_false]
 exact ⟨x, List.mem_of_getElem? h, by rw [hb]; decide⟩
abbrev erA (x : Er) : Value := .agg #[.int .i64 x.a, .int .i64 x.b, .int .i64 x.c, .slice x.A x.n x.m]
set_option maxHeartbeats 800000 in
theorem rclo_any (x : Er) (w : World) (hd : Rd w T 1 x.A x.n (bs x.d)) (h1 : x.n ≤ x.m) (h2 : x.m ≤ maxLen) (hev : EvW w w.heap.size) :
  Calls Tryz.prog 157 #[erA x] w (BoolPost w (rbad x.c x.d)) := by
 obtain ⟨W0, hW0⟩ : ∃ W0, W0 = w.alloc (.cells #[.int .i64 x.a, .int .i64 x.b, .int .i64 x.c, .slice x.A x.n x.m] 62) := ⟨_, rfl⟩
 have b0 : Bx W0 w.heap.size #[.int .i64 x.a, .int .i64 x.b, .int .i64 x.c, .slice x.A x.n x.m] := by subst hW0; exact Bx.new _ _ _ rfl
 have hbe : Below w.heap.size w W0 := by subst hW0; exact (Below.refl _ _).alloc (Nat.le_refl _) _
 have hz : w.heap.size ≤ W0.heap.size := hbe.size
 have hdec := cdec_any x.A x.n x.m x.d W0 (hd.below hbe) h1 h2 ((hev.below hbe (Nat.le_refl _)).mono hz)
 obtain ⟨p, hp⟩ : ∃ p, confD x.d = p := ⟨_, rfl⟩
 have hq : rbad x.c x.d = ((x.c == 2) && p.isNone) := by unfold rbad; rw [hp]
 rw [hp] at hdec
 rw [hq]
 obtain ⟨i0, i1, i2, i3, -⟩ := b0.c4
 have HW := Lib.hid hW0
 have Hdec := Lib.hid hdec
 have B := Lib.hid (And.intro b0 hbe)
 clear hW0 b0 hbe hz hdec hp hq hd hev
 unfold erA
 go_enter Tryz.func157, Tryz.ntmps157
 go_upto_region 1 with (fail)
 rw [← HW.out]
 cases p with
 | none =>
  go_wp2_with fail
  refine Hdec.out.mono ?_
  rintro e w3 ⟨rfl, hb3⟩
  obtain ⟨j0, j1, j2, j3, -⟩ := (B.out.1.below hb3).c4
  have Hb3 := Lib.hid (B.out.2.trans (hb3.mono B.out.2.size))
  clear i0 i1 i2 i3 hb3
  rw [show errE 3 = .iface 105 (.int .i64 3) from rfl]
  by_cases hk : x.c = 2
  ·rw [hk] at j2
   have Hk := Lib.hid hk
   go_wp2_with fail
   go_ret
   exact ⟨ret_bool (by rw [Hk.out]; rfl), Hb3.out⟩
  ·have hkd : (x.c == 2) = false := by simpa using hk
   have Hk := Lib.hid hkd
   go_wp2_with fail
   go_ret
   exact ⟨ret_bool (by rw [Hk.out]; rfl), Hb3.out⟩
 | some ys =>
  go_wp2_with fail
  refine Hdec.out.mono ?_
  rintro e w3 ⟨A3, n3, c3, rfl, o3, hb3⟩
  obtain ⟨j0, j1, j2, j3, -⟩ := (B.out.1.below hb3).c4
  have Hb3 := Lib.hid (B.out.2.trans (hb3.mono B.out.2.size))
  clear i0 i1 i2 i3 hb3 o3
  rw [show errE 0 = .nilIface from rfl]
  by_cases hk : x.c = 2
  ·rw [hk] at j2
   have Hk := Lib.hid hk
   go_wp2_with fail
   go_ret
   exact ⟨ret_bool (by rw [Hk.out]; rfl), Hb3.out⟩
  ·have hkd : (x.c == 2) = false := by simpa using hk
   have Hk := Lib.hid hkd
   go_wp2_with fail
   go_ret
   exact ⟨ret_bool (by rw [Hk.out]; rfl), Hb3.out⟩
def FirstAt {α : Type} (p : α → Bool) (l : List α) (k : Int) : Prop := (∃ j x, k = (j : Nat) ∧ l[j]? = some x ∧ p x = true) ∨ (k = -1 ∧ ∀ y ∈ l, p y = false)
set_option maxHeartbeats 800000 in
theorem ridx_any (A : Option Addr) (n c : Nat) (L : List Er) (w : World) {ok : Nat → Prop} (hr : Rd w ok 4 A n (flat ecell L)) (hd : Dat w L) (hn : n ≤ 1000000) (hev : EvW w w.heap.size) :
  Calls Tryz.prog 204 #[.slice A n c, .func (.func 157) #[] #[]] w (fun e w' => ∃ k : Int, e = .returned (.int .i64 k) ∧ FirstAt (fun x : Er => rbad x.c x.d) L k ∧ Below w.heap.size w w') := by
 have hl := hr.flen ecell_len (by omega)
 have Hl := Lib.hid hl
 have hclo := fun (W : World) (x : Er) (hb : Below w.heap.size w W) (hx : x ∈ L) => rclo_any x W ((hd x hx).1.below hb) (hd x hx).2.1 (hd x hx).2.2 ((hev.below hb (Nat.le_refl _)).mono hb.size)
 have Hclo := Lib.hid hclo
 clear hl hclo hd hev
 go_enter Tryz.func204, Tryz.ntmps204
 go_wp2_with fail
 go_loopg [5, 8] n (fun m s5 s8 wr => ∃ j : Nat, m = n - j ∧ j ≤ n ∧ s8 = .int .i64 j ∧ (∀ y ∈ L.take j, rbad y.c y.d = false) ∧ Below w.heap.size w wr)
 case atStart => exact ⟨0, by omega, by omega, rfl, by simp, Below.refl _ _⟩
 case round =>
  obtain ⟨j, hm, hj, rfl, hno, hb⟩ := hrel
  have Hm := Lib.hid hm
  have Hno := Lib.hid hno
  clear hm hno
  by_cases hlt : j < n
  ·obtain ⟨b, o, x, rfl, _, hbl, hx, hc0, hc1, hc2, hc3⟩ := er_cells (hr.below hb) hlt
   have hs : L.take (j + 1) = L.take j ++ [x] := by rw [List.take_add_one, hx]; rfl
   have Hx := Lib.hid hx
   have Hs := Lib.hid hs
   have hodd := Hclo.out wr x hb (List.mem_of_getElem? hx)
   unfold erA at hodd
   obtain ⟨m, hm⟩ : ∃ m, m = rbad x.c x.d := ⟨_, rfl⟩
   rw [← hm] at hodd
   have Hodd := Lib.hid hodd
   have Hmm := Lib.hid hm
   clear hs hx hodd hm
   have hjn : (j : Int) < n := by omega
   rcases Bool.eq_false_or_eq_true m with hz | hz
   ·subst hz
    go_wp2_with fail
    refine Hodd.out.mono ?_
    rintro e w' ⟨rfl, hb2⟩
    go_wp2_with fail
    go_ret
    exact ⟨_, rfl, .inl ⟨j, x, rfl, Hx.out, Hmm.out.symm⟩, hb.trans (hb2.mono hb.size)⟩
   ·subst hz
    go_wp2_with fail
    refine Hodd.out.mono ?_
    rintro e w' ⟨rfl, hb2⟩
    go_wp2_with fail
    go_roundg (n - (j + 1))
    case measure => have := Hm.out; omega
    case rel =>
     refine ⟨j + 1, rfl, by omega, by go_num, ?_, hb.trans (hb2.mono hb.size)⟩
     intro y hy
     rw [Hs.out] at hy
     rcases List.mem_append.1 hy with hy | hy
     ·exact Hno.out y hy
     ·obtain rfl := List.mem_singleton.1 hy
      exact Hmm.out.symm
  ·obtain rfl : j = n := by omega
   go_wp2_with fail
   go_ret
   refine ⟨_, rfl, .inr ⟨rfl, ?_⟩, hb⟩
   have := Hno.out
   rwa [List.take_of_length_le (Nat.le_of_eq Hl.out)] at this
theorem rcon_any (A : Option Addr) (n c : Nat) (L : List Er) (w : World) {ok : Nat → Prop} (hr : Rd w ok 4 A n (flat ecell L)) (hd : Dat w L) (hn : n ≤ 1000000) (hev : EvW w w.heap.size) :
  Calls Tryz.prog 156 #[.slice A n c, .func (.func 157) #[] #[]] w (BoolPost w (!rdok L)) := by
 have hidx := ridx_any A n c L w hr hd hn hev
 have Hidx := Lib.hid hidx
 clear hidx hr hd hev
 go_enter Tryz.func156, Tryz.ntmps156
 go_wp2_with fail
 refine Hidx.out.mono ?_
 rintro e w' ⟨k, rfl, hk, hb⟩
 rcases hk with ⟨j, x, rfl, hx, hbd⟩ | ⟨rfl, hno⟩
 ·have HF := Lib.hid (rdok_no hx hbd)
  have Hb := Lib.hid hb
  have h0 : (0 : Int) ≤ j := by omega
  clear hx hbd hb
  go_wp2_with fail
  go_ret
  exact ⟨ret_bool (by rw [HF.out]; rfl), Hb.out⟩
 ·have HF := Lib.hid (show rdok L = true by unfold rdok; rw [List.all_eq_true]; intro y hy; rw [show rbad y.c y.d = false from hno y hy]; rfl)
  have Hb := Lib.hid hb
  clear hno hb
  go_wp2_with fail
  go_ret
  exact ⟨ret_bool (by rw [HF.out]; rfl), Hb.out⟩
theorem read_ok (A : Option Addr) (n c : Nat) (L : List Er) (w : World) {ok : Nat → Prop} (hr : Rd w ok 4 A n (flat ecell L)) (hd : Dat w L) (hn : n ≤ 1000000) (hev : EvW w w.heap.size) :
  Calls Tryz.prog 95 #[.slice A n c] w (BoolPost w (rdok L)) := by
 have hcon := rcon_any A n c L w hr hd hn hev
 have Hcon := Lib.hid hcon
 clear hcon hr hd hev
 go_enter Tryz.func95, Tryz.ntmps95
 go_wp2_with fail
 refine Hcon.out.mono ?_
 rintro e w' ⟨rfl, hb⟩
 go_wp2_with fail
 go_ret
 exact ⟨rfl, hb⟩
def preB (b t : Int) (n : Nat) : Bool := (decide (b = 0) && decide (t = 0) || decide (1 ≤ b) && decide (b ≤ 1099511627776) && decide (1 ≤ t) && decide (t ≤ 1099511627776)) && decide (n ≤ 4096)
theorem preB_iff {b t : Int} {n : Nat} : preB b t n = true ↔ ((b = 0 ∧ t = 0) ∨ (1 ≤ b ∧ b ≤ 1099511627776 ∧ 1 ≤ t ∧ t ≤ 1099511627776)) ∧ n ≤ 4096 := by
 unfold preB
 simp only [Bool.and_eq_true, Bool.or_eq_true, decide_eq_true_eq, and_assoc]
theorem may_no {b t : Int} {l : List En} {n : Nat} (hn : l.length = n) (h : ¬ (((b = 0 ∧ t = 0) ∨ (1 ≤ b ∧ b ≤ 1099511627776 ∧ 1 ≤ t ∧ t ≤ 1099511627776)) ∧ n ≤ 4096)) : lmay b t l = false := by
 subst hn
 rw [← preB_iff] at h
 simp only [Bool.not_eq_true] at h
 show (preB b t l.length && rgt b t 0 l) = false
 rw [h, Bool.false_and]
theorem may_yes {b t : Int} {l : List En} {n : Nat} (hn : l.length = n) (h : ((b = 0 ∧ t = 0) ∨ (1 ≤ b ∧ b ≤ 1099511627776 ∧ 1 ≤ t ∧ t ≤ 1099511627776)) ∧ n ≤ 4096) : lmay b t l = rgt b t 0 l := by
 subst hn
 rw [← preB_iff] at h
 show (preB b t l.length && rgt b t 0 l) = rgt b t 0 l
 rw [h, Bool.true_and]
set_option maxHeartbeats 1600000 in
theorem may_any (b t : Int) (A : Option Addr) (n c : Nat) (L : List Er) (w : World) {ok : Nat → Prop} (hr : Rd w ok 4 A n (flat ecell L)) (hw : Wel L) (hn : n ≤ 1000000) :
  Calls Tryz.prog 58 #[.agg #[.int .i64 b, .int .i64 t, .slice A n c]] w (BoolPost w (lmay b t (L.map en))) := by
 have Hll := Lib.hid (hr.flen ecell_len (by omega))
 have hrt := fun ix tm W (h : Rd W ok 4 A n (flat ecell L)) => right_any ix tm A n c L W h hw hn
 clear hw
 by_cases hb0 : b = 0
 ·subst hb0
  by_cases ht0 : t = 0
  ·subst ht0
   by_cases hl : (n : Int) ≤ 4096
   ·have hf := may_yes (b := (0 : Int)) (t := (0 : Int)) (l := L.map en) (n := n) (by simp [Hll.out]) (by omega)
    rw [hf]
    have Hrt := Lib.hid (fun ob => hrt (0 : Int) (0 : Int) (w.alloc ob) (hr.alloc ob))
    clear hf
    go_enter Tryz.func58, Tryz.ntmps58
    go_wp2_with fail
    all_goals
     refine (Hrt.out _).mono ?_
     rintro e w2 ⟨rfl, hb2⟩
     go_wp2_with fail
     go_ret
     exact ⟨rfl, ((Below.refl _ _).alloc (Nat.le_refl _) _).trans (hb2.mono (by simp))⟩
   ·have hld : decide ((n : Int) ≤ 4096) = false := decide_eq_false hl
    have hf := may_no (b := (0 : Int)) (t := (0 : Int)) (l := L.map en) (n := n) (by simp [Hll.out]) (by omega)
    have Hf := Lib.hid hf
    clear hf
    go_enter Tryz.func58, Tryz.ntmps58
    go_wp2_with fail
    all_goals
     go_ret
     exact ⟨ret_bool Hf.out.symm, (Below.refl _ _).alloc (Nat.le_refl _) _⟩
  ·have e1 : (t == 0) = false := by simpa using ht0
   have hf := may_no (b := (0 : Int)) (t := t) (l := L.map en) (n := n) (by simp [Hll.out]) (by omega)
   have Hf := Lib.hid hf
   clear hf
   go_enter Tryz.func58, Tryz.ntmps58
   go_wp2_with fail
   all_goals
    go_ret
    exact ⟨ret_bool Hf.out.symm, (Below.refl _ _).alloc (Nat.le_refl _) _⟩
 ·have e1 : (b == 0) = false := by simpa using hb0
  by_cases h4 : 1 ≤ b
  ·by_cases h3 : b ≤ 1099511627776
   ·by_cases h2 : 1 ≤ t
    ·by_cases h1 : t ≤ 1099511627776
     ·by_cases hl : (n : Int) ≤ 4096
      ·have hf := may_yes (b := b) (t := t) (l := L.map en) (n := n) (by simp [Hll.out]) (by omega)
       rw [hf]
       have Hrt := Lib.hid (fun ob => hrt b t (w.alloc ob) (hr.alloc ob))
       clear hf
       go_enter Tryz.func58, Tryz.ntmps58
       go_wp2_with fail
       all_goals
        refine (Hrt.out _).mono ?_
        rintro e w2 ⟨rfl, hb2⟩
        go_wp2_with fail
        go_ret
        exact ⟨rfl, ((Below.refl _ _).alloc (Nat.le_refl _) _).trans (hb2.mono (by simp))⟩
      ·have hld : decide ((n : Int) ≤ 4096) = false := decide_eq_false hl
       have hf := may_no (b := b) (t := t) (l := L.map en) (n := n) (by simp [Hll.out]) (by omega)
       have Hf := Lib.hid hf
       clear hf
       go_enter Tryz.func58, Tryz.ntmps58
       go_wp2_with fail
       all_goals
        go_ret
        exact ⟨ret_bool Hf.out.symm, (Below.refl _ _).alloc (Nat.le_refl _) _⟩
     ·have d1 : decide (t ≤ 1099511627776) = false := decide_eq_false h1
      have hf := may_no (b := b) (t := t) (l := L.map en) (n := n) (by simp [Hll.out]) (by omega)
      have Hf := Lib.hid hf
      clear hf
      go_enter Tryz.func58, Tryz.ntmps58
      go_wp2_with fail
      all_goals
       go_ret
       exact ⟨ret_bool Hf.out.symm, (Below.refl _ _).alloc (Nat.le_refl _) _⟩
    ·have d2 : decide (1 ≤ t) = false := decide_eq_false h2
     have hf := may_no (b := b) (t := t) (l := L.map en) (n := n) (by simp [Hll.out]) (by omega)
     have Hf := Lib.hid hf
     clear hf
     go_enter Tryz.func58, Tryz.ntmps58
     go_wp2_with fail
     all_goals
      go_ret
      exact ⟨ret_bool Hf.out.symm, (Below.refl _ _).alloc (Nat.le_refl _) _⟩
   ·have d3 : decide (b ≤ 1099511627776) = false := decide_eq_false h3
    have hf := may_no (b := b) (t := t) (l := L.map en) (n := n) (by simp [Hll.out]) (by omega)
    have Hf := Lib.hid hf
    clear hf
    go_enter Tryz.func58, Tryz.ntmps58
    go_wp2_with fail
    all_goals
     go_ret
     exact ⟨ret_bool Hf.out.symm, (Below.refl _ _).alloc (Nat.le_refl _) _⟩
  ·have d4 : decide (1 ≤ b) = false := decide_eq_false h4
   have hf := may_no (b := b) (t := t) (l := L.map en) (n := n) (by simp [Hll.out]) (by omega)
   have Hf := Lib.hid hf
   clear hf
   go_enter Tryz.func58, Tryz.ntmps58
   go_wp2_with fail
   all_goals
    go_ret
    exact ⟨ret_bool Hf.out.symm, (Below.refl _ _).alloc (Nat.le_refl _) _⟩
def TwoInt (W : World) (x y : Int) (e : Ending) (w' : World) : Prop := e = .returned (.tuple #[.int .i64 x, .int .i64 y]) ∧ Below W.heap.size W w'
theorem last_any (b t : Int) (A : Option Addr) (n c : Nat) (L : List Er) (w : World) {ok : Nat → Prop} (hr : Rd w ok 4 A n (flat ecell L)) (hn : n ≤ 1000000) :
  Calls Tryz.prog 57 #[.agg #[.int .i64 b, .int .i64 t, .slice A n c]] w (TwoInt w (lstA b (L.map en)) (lstB t (L.map en))) := by
 have hll := hr.flen ecell_len (by omega)
 by_cases h0 : n = 0
 ·subst h0
  obtain rfl : L = [] := List.eq_nil_of_length_eq_zero hll
  clear hll hr
  go_enter Tryz.func57, Tryz.ntmps57
  go_wp2_with fail
  go_quiet (fail)
  go_wp2_with fail
  go_ret2
  exact ⟨rfl, below_drewN ((Below.refl _ _).alloc (Nat.le_refl _) _) _⟩
 ·obtain ⟨m, rfl⟩ : ∃ m, n = m + 1 := ⟨n - 1, by omega⟩
  obtain ⟨bk, o, x, rfl, _, hbl, hx, c0, c1, c2, c3⟩ := er_cells hr (j := m) (by omega)
  obtain ⟨e, he, ha, hb⟩ := lstA_len (b := b) (l := L.map en) (by simp; omega)
  have hex : e = en x := by
   rw [List.getElem?_map, List.length_map, hll, Nat.add_sub_cancel, hx] at he
   exact (Option.some.inj he).symm
  rw [ha, hb t, hex]
  have hA : (en x).a = x.a := rfl
  have hB : (en x).b = x.b := rfl
  rw [hA, hB]
  have hmI : (0 : Int) < (m : Int) + 1 := by omega
  have hm0 : (0 : Int) ≤ (m : Int) := by omega
  have hml : (m : Int) < (m : Int) + 1 := by omega
  have hwm : IntKind.i64.wrap (m : Int) = (m : Int) := by rw [IntKind.wrap_i64]; omega
  have a0 : ∀ ob, (w.alloc ob).cell? ⟨bk, o + m * 4, none⟩ = some (.int .i64 x.a) := fun ob => (((Below.refl w.heap.size w).alloc (Nat.le_refl _) ob).cell (p := ⟨bk, o + m * 4, none⟩) hbl).trans c0
  have a1 : ∀ ob, (w.alloc ob).cell? ⟨bk, o + m * 4 + 1, none⟩ = some (.int .i64 x.b) := fun ob => (((Below.refl w.heap.size w).alloc (Nat.le_refl _) ob).cell (p := ⟨bk, o + m * 4 + 1, none⟩) hbl).trans c1
  clear he ha hb hex hr hll hx
  go_enter Tryz.func57, Tryz.ntmps57
  go_wp2_with fail
  go_quiet (fail)
  go_wp2_with fail
  go_ret2
  exact ⟨rfl, below_drewN ((Below.refl _ _).alloc (Nat.le_refl _) _) _⟩
end Go.Proofs.YtmhaahcbmdhinaaGreatDoor
