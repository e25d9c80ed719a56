/- Walks: msg.within: whether numbers are from a least one to a most one.
   Walks: msg.odd.
   Walks: (msg.Msg).may, msg.Check
   A member whose term and vote have turned, in memory; what is told in one message.
   Walk: (*raft.Core).vote
   Walks: raft.ahead: whether a message speaks of terms above its own. -/
import Derived.Test.YtmhaahcbmdhinaaGreatDoorZM16
import Derived.Test.YtmhaahcbmdhinaaGreatDoorZM5
import Derived.Test.YtmhaahcbmdhinaaGreatDoorZM17
import Derived.Deep.MidRow
import Derived.Test.YtmhaahcbmdhinaaGreatDoorZM23
import Derived.Test.YtmhaahcbmdhinaaGreatDoorZM10
namespace Go.Proofs.YtmhaahcbmdhinaaGreatDoor
open Go.RowKit
set_option maxRecDepth 100000
set_option linter.unusedVariables false
set_option linter.unusedSimpArgs false
def winB (lo hi : Int) (l : List Int) : Bool := l.all fun n => within1 lo hi n
theorem wclo_any (lo hi x : Int) (a b : Nat) (w : World) (ca : w.cell? ⟨a, 0, none⟩ = some (.int .i64 lo)) (cb : w.cell? ⟨b, 0, none⟩ = some (.int .i64 hi)) :
  Calls Tryz.prog 215 #[.int .i64 x, .pointer (some ⟨a, 0, none⟩), .pointer (some ⟨b, 0, none⟩)] w (BoolPost w (!within1 lo hi x)) := by
 by_cases h1 : x < lo
 ·have h1I : decide (x < lo) = true := decide_eq_true h1
  have E := Lib.hid (show (!within1 lo hi x) = true by unfold within1; rw [decide_eq_false (by omega : ¬ lo ≤ x)]; rfl)
  clear h1
  go_enter Tryz.func215, Tryz.ntmps215
  go_wp2_with fail
  go_ret
  exact ⟨ret_bool E.out.symm, Below.refl _ _⟩
 ·have h1I : decide (x < lo) = false := decide_eq_false h1
  obtain ⟨z, hz⟩ : ∃ z, decide (hi < x) = z := ⟨_, rfl⟩
  have E := Lib.hid (show (!within1 lo hi x) = z by
   rw [← hz]
   unfold within1
   rw [decide_eq_true (by omega : lo ≤ x), Bool.true_and]
   by_cases h2 : hi < x
   ·rw [decide_eq_true h2, decide_eq_false (by omega : ¬ x ≤ hi)]; rfl
   ·rw [decide_eq_false h2, decide_eq_true (by omega : x ≤ hi)]; rfl)
  clear h1
  go_enter Tryz.func215, Tryz.ntmps215
  go_wp2_with fail
  go_ret
  exact ⟨ret_bool E.out.symm, Below.refl _ _⟩
set_option maxHeartbeats 800000 in
theorem widx_any (lo hi : Int) (a b : Nat) (A : Option Addr) (n c : Nat) (l : List Int) (w : World) {ok : Nat → Prop} (hr : Rd w ok 1 A n (ii l)) (hn : n ≤ 1000000) (ca : w.cell? ⟨a, 0, none⟩ = some (.int .i64 lo)) (cb : w.cell? ⟨b, 0, none⟩ = some (.int .i64 hi)) :
  Calls Tryz.prog 235 #[.slice A n c, .func (.func 215) #[] #[.pointer (some ⟨a, 0, none⟩), .pointer (some ⟨b, 0, none⟩)]] w (fun e w' => ∃ k : Int, e = .returned (.int .i64 k) ∧ FirstAt (fun x : Int => !within1 lo hi x) l k ∧ Below w.heap.size w w') := by
 have hl : l.length = n := by have := hr.1; simpa [ii] using this
 have Hl := Lib.hid hl
 have hal := World.block_lt_of_cell? w _ ca
 have hbl := World.block_lt_of_cell? w _ cb
 have hclo := fun (W : World) (x : Int) (hb : Below w.heap.size w W) => wclo_any lo hi x a b W ((hb.cell (p := ⟨a, 0, none⟩) hal).trans ca) ((hb.cell (p := ⟨b, 0, none⟩) hbl).trans cb)
 have Hclo := Lib.hid hclo
 clear hl hclo ca cb hal hbl
 go_enter Tryz.func235, Tryz.ntmps235
 go_wp2_with fail
 go_loopg [5, 8] n (fun m s5 s8 wr => ∃ j : Nat, m = n - j ∧ j ≤ n ∧ s8 = .int .i64 j ∧ (∀ y ∈ l.take j, (!within1 lo hi y) = false) ∧ Below w.heap.size w wr)
 case atStart => exact ⟨0, by omega, by omega, rfl, by simp, Below.refl _ _⟩
 case round =>
  obtain ⟨j, hm, hj, rfl, hno, hb⟩ := hrel
  have Hm := Lib.hid hm
  have Hno := Lib.hid hno
  clear hm hno
  by_cases hlt : j < n
  ·obtain ⟨b0, o, x, rfl, _, hbl, hx, hc0⟩ := ii_cell (hr.below hb) hlt
   have hs : l.take (j + 1) = l.take j ++ [x] := by rw [List.take_add_one, hx]; rfl
   have Hx := Lib.hid hx
   have Hs := Lib.hid hs
   have hodd := Hclo.out wr x hb
   obtain ⟨m, hm⟩ : ∃ m, m = !within1 lo hi x := ⟨_, rfl⟩
   rw [← hm] at hodd
   have Hodd := Lib.hid hodd
   have Hmm := Lib.hid hm
   clear hs hx hodd hm
   have hjn : (j : Int) < n := by omega
   rcases Bool.eq_false_or_eq_true m with hz | hz
   ·subst hz
    go_wp2_with fail
    refine Hodd.out.mono ?_
    rintro e w' ⟨rfl, hb2⟩
    go_wp2_with fail
    go_ret
    exact ⟨_, rfl, .inl ⟨j, x, rfl, Hx.out, Hmm.out.symm⟩, hb.trans (hb2.mono hb.size)⟩
   ·subst hz
    go_wp2_with fail
    refine Hodd.out.mono ?_
    rintro e w' ⟨rfl, hb2⟩
    go_wp2_with fail
    go_roundg (n - (j + 1))
    case measure => have := Hm.out; omega
    case rel =>
     refine ⟨j + 1, rfl, by omega, by go_num, ?_, hb.trans (hb2.mono hb.size)⟩
     intro y hy
     rw [Hs.out] at hy
     rcases List.mem_append.1 hy with hy | hy
     ·exact Hno.out y hy
     ·obtain rfl := List.mem_singleton.1 hy
      exact Hmm.out.symm
  ·obtain rfl : j = n := by omega
   go_wp2_with fail
   go_ret
   refine ⟨_, rfl, .inr ⟨rfl, ?_⟩, hb⟩
   have := Hno.out
   rwa [List.take_of_length_le (Nat.le_of_eq Hl.out)] at this
theorem winB_no {lo hi x : Int} {l : List Int} {j : Nat} (h : l[j]? = some x) (hb : (!within1 lo hi x) = true) : winB lo hi l = false := by
 unfold winB
 rw [List.all_eq_false]
 exact ⟨x, List.mem_of_getElem? h, by simpa using hb⟩
theorem wcon_any (lo hi : Int) (a b : Nat) (A : Option Addr) (n c : Nat) (l : List Int) (w : World) {ok : Nat → Prop} (hr : Rd w ok 1 A n (ii l)) (hn : n ≤ 1000000) (ca : w.cell? ⟨a, 0, none⟩ = some (.int .i64 lo)) (cb : w.cell? ⟨b, 0, none⟩ = some (.int .i64 hi)) :
  Calls Tryz.prog 214 #[.slice A n c, .func (.func 215) #[] #[.pointer (some ⟨a, 0, none⟩), .pointer (some ⟨b, 0, none⟩)]] w (BoolPost w (!winB lo hi l)) := by
 have hidx := widx_any lo hi a b A n c l w hr hn ca cb
 have Hidx := Lib.hid hidx
 clear hidx hr ca cb
 go_enter Tryz.func214, Tryz.ntmps214
 go_wp2_with fail
 refine Hidx.out.mono ?_
 rintro e w' ⟨k, rfl, hk, hb⟩
 rcases hk with ⟨j, x, rfl, hx, hbd⟩ | ⟨rfl, hno⟩
 ·have HF := Lib.hid (winB_no hx hbd)
  have Hb := Lib.hid hb
  have h0 : (0 : Int) ≤ j := by omega
  clear hx hbd hb
  go_wp2_with fail
  go_ret
  exact ⟨ret_bool (by rw [HF.out]; rfl), Hb.out⟩
 ·have HF := Lib.hid (show winB lo hi l = true by unfold winB; rw [List.all_eq_true]; intro y hy; have := hno y hy; simpa using this)
  have Hb := Lib.hid hb
  clear hno hb
  go_wp2_with fail
  go_ret
  exact ⟨ret_bool (by rw [HF.out]; rfl), Hb.out⟩
set_option maxHeartbeats 800000 in
theorem within_any (lo hi : Int) (A : Option Addr) (n c : Nat) (l : List Int) (w : World) {ok : Nat → Prop} (hr : Rd w ok 1 A n (ii l)) (hn : n ≤ 1000000) :
  Calls Tryz.prog 179 #[.int .i64 lo, .int .i64 hi, .slice A n c] w (BoolPost w (winB lo hi l)) := by
 obtain ⟨W0, hW0⟩ : ∃ W0, W0 = (w.alloc (.cells #[.int .i64 lo] 3)).alloc (.cells #[.int .i64 hi] 3) := ⟨_, rfl⟩
 have b0 : Bx W0 w.heap.size #[.int .i64 lo] := by subst hW0; exact (Bx.new _ _ _ rfl).alloc _
 have b1 : Bx W0 (w.heap.size + 1) #[.int .i64 hi] := by subst hW0; exact Bx.new _ _ _ (by simp)
 have hbe : Below w.heap.size w W0 := by subst hW0; exact ((Below.refl _ _).alloc (Nat.le_refl _) _).alloc (by simp) _
 have hcon := wcon_any lo hi w.heap.size (w.heap.size + 1) A n c l W0 (hr.below hbe) hn (b0.c 0) (b1.c 0)
 obtain ⟨q, hq⟩ : ∃ q, winB lo hi l = q := ⟨_, rfl⟩
 rw [hq] at hcon ⊢
 have HW := Lib.hid hW0
 have B := Lib.hid hbe
 have Hcon := Lib.hid hcon
 clear hW0 b0 b1 hbe hcon hr hq
 go_enter Tryz.func179, Tryz.ntmps179
 go_upto_region 1 with (fail)
 rw [← HW.out]
 go_wp2_with fail
 refine Hcon.out.mono ?_
 rintro e w1 ⟨rfl, hb1⟩
 have K := Lib.hid (B.out.trans (hb1.mono B.out.size))
 clear hb1
 go_wp2_with fail
 go_ret
 exact ⟨ret_bool (by simp), K.out⟩
theorem within_lit (lo hi : Int) (l : List Int) (w : World) (k : Nat) (cs : Array Value) (hc : cs.toList = ii l) (hk : cs.size = k) (hn : k ≤ 1000000) (t : TypeId) :
  Calls Tryz.prog 179 #[.int .i64 lo, .int .i64 hi, .slice (some ⟨w.heap.size, 0, none⟩) k k] (w.alloc (.cells cs t)) (fun e w' => e = .returned (.bool (winB lo hi l)) ∧ Below w.heap.size w w') := by
 have hr : Rd (w.alloc (.cells cs t)) (w.heap.size ≤ ·) 1 (some ⟨w.heap.size, 0, none⟩) k (ii l) := by rw [← hc]; exact Rd.lit hk
 refine (within_any lo hi _ k k l _ hr hn).mono ?_
 rintro e w' ⟨rfl, hb⟩
 have h0 : Below w.heap.size w (w.alloc (.cells cs t)) := (Below.refl _ _).alloc (Nat.le_refl _) _
 exact ⟨rfl, h0.trans (hb.mono h0.size)⟩
theorem oddE_of (e : En) : oddE e = (!winB 1 1099511627776 [e.a, e.b] || !winB 0 2 [e.c] || decide (4096 < e.d.length)) := by
 unfold oddE winB
 simp only [List.all_cons, List.all_nil, Bool.and_true]
set_option maxHeartbeats 1600000 in
theorem odd_any (x : Er) (w : World) (hd : Rd w T 1 x.A x.n (bs x.d)) :
  Calls Tryz.prog 180 #[erA x] w (BoolPost w (oddE (en x))) := by
 obtain ⟨W0, hW0⟩ : ∃ W0, W0 = w.alloc (.cells #[.int .i64 x.a, .int .i64 x.b, .int .i64 x.c, .slice x.A x.n x.m] 62) := ⟨_, rfl⟩
 have b0 : Bx W0 w.heap.size #[.int .i64 x.a, .int .i64 x.b, .int .i64 x.c, .slice x.A x.n x.m] := by subst hW0; exact Bx.new _ _ _ rfl
 have hbe : Below w.heap.size w W0 := by subst hW0; exact (Below.refl _ _).alloc (Nat.le_refl _) _
 have hl := hd.blen
 have h1 := within_lit 1 1099511627776 [x.a, x.b] W0 2 #[.int .i64 x.a, .int .i64 x.b] rfl rfl (by omega) 3
 have h2 := fun W => within_lit 0 2 [x.c] W 1 #[.int .i64 x.c] rfl rfl (by omega) 3
 obtain ⟨q, hq⟩ : ∃ q, oddE (en x) = q := ⟨_, rfl⟩
 have hq' : q = (!winB 1 1099511627776 [x.a, x.b] || !winB 0 2 [x.c] || decide (4096 < x.d.length)) := by rw [← hq, oddE_of]; rfl
 obtain ⟨p1, hp1⟩ : ∃ p, winB 1 1099511627776 [x.a, x.b] = p := ⟨_, rfl⟩
 obtain ⟨p2, hp2⟩ : ∃ p, winB 0 2 [x.c] = p := ⟨_, rfl⟩
 rw [hp1] at h1
 simp only [hp2] at h2
 rw [hp1, hp2, hl] at hq'
 rw [hq]
 obtain ⟨i0, i1, i2, i3, -⟩ := b0.c4
 have HW := Lib.hid hW0
 have H1 := Lib.hid h1
 have H2 := Lib.hid h2
 have Q := Lib.hid hq'
 have B := Lib.hid (And.intro b0 hbe)
 clear hW0 b0 hbe h1 h2 hq hq' hp1 hp2 hl hd
 unfold erA
 go_enter Tryz.func180, Tryz.ntmps180
 go_upto_region 1 with (fail)
 rw [← HW.out]
 cases p1 with
 | false =>
  go_wp2_with fail
  refine H1.out.mono ?_
  rintro e w1 ⟨rfl, hb1⟩
  have K := Lib.hid (B.out.2.trans (hb1.mono B.out.2.size))
  clear hb1
  go_wp2_with fail
  go_ret
  exact ⟨ret_bool (by rw [Q.out]; rfl), K.out⟩
 | true =>
  go_wp2_with fail
  refine H1.out.mono ?_
  rintro e w1 ⟨rfl, hb1⟩
  obtain ⟨j0, j1, j2, j3, -⟩ := (B.out.1.below hb1).c4
  have K := Lib.hid (B.out.2.trans (hb1.mono B.out.2.size))
  clear i0 i1 i2 i3 hb1
  have H2' := Lib.hid (H2.out w1)
  cases p2 with
  | false =>
   go_wp2_with fail
   refine H2'.out.mono ?_
   rintro e w2 ⟨rfl, hb2⟩
   have K2 := Lib.hid (K.out.trans (hb2.mono K.out.size))
   clear hb2
   go_wp2_with fail
   go_ret
   exact ⟨ret_bool (by rw [Q.out]; rfl), K2.out⟩
  | true =>
   go_wp2_with fail
   refine H2'.out.mono ?_
   rintro e w2 ⟨rfl, hb2⟩
   have c3 := hb2.cell (p := ⟨w.heap.size, 3, none⟩) (by have := (B.out.1.lt); have := World.block_lt_of_cell? w1 _ j3; exact this)
   rw [j3] at c3
   have K2 := Lib.hid (K.out.trans (hb2.mono K.out.size))
   clear hb2 j0 j1 j2 j3
   by_cases hg : 4096 < x.n
   ·have hgI : decide ((4096 : Int) < (x.n : Int)) = true := decide_eq_true (by omega)
    have QQ := Lib.hid (show q = true by rw [Q.out, decide_eq_true hg]; rfl)
    go_wp2_with fail
    go_ret
    exact ⟨ret_bool QQ.out.symm, K2.out⟩
   ·have hgI : decide ((4096 : Int) < (x.n : Int)) = false := decide_eq_false (by omega)
    have QQ := Lib.hid (show q = false by rw [Q.out, decide_eq_false hg]; rfl)
    go_wp2_with fail
    go_ret
    exact ⟨ret_bool QQ.out.symm, K2.out⟩
set_option maxHeartbeats 800000 in
theorem oidx_any (A : Option Addr) (n c : Nat) (L : List Er) (w : World) {ok : Nat → Prop} (hr : Rd w ok 4 A n (flat ecell L)) (hd : Dat w L) (hn : n ≤ 1000000) :
  Calls Tryz.prog 204 #[.slice A n c, .func (.func 180) #[] #[]] w (fun e w' => ∃ k : Int, e = .returned (.int .i64 k) ∧ FirstAt (fun x : Er => oddE (en x)) L k ∧ Below w.heap.size w w') := by
 have hl := hr.flen ecell_len (by omega)
 have Hl := Lib.hid hl
 have hclo := fun (W : World) (x : Er) (hb : Below w.heap.size w W) (hx : x ∈ L) => odd_any x W ((hd x hx).1.below hb)
 have Hclo := Lib.hid hclo
 clear hl hclo hd
 go_enter Tryz.func204, Tryz.ntmps204
 go_wp2_with fail
 go_loopg [5, 8] n (fun m s5 s8 wr => ∃ j : Nat, m = n - j ∧ j ≤ n ∧ s8 = .int .i64 j ∧ (∀ y ∈ L.take j, oddE (en y) = false) ∧ Below w.heap.size w wr)
 case atStart => exact ⟨0, by omega, by omega, rfl, by simp, Below.refl _ _⟩
 case round =>
  obtain ⟨j, hm, hj, rfl, hno, hb⟩ := hrel
  have Hm := Lib.hid hm
  have Hno := Lib.hid hno
  clear hm hno
  by_cases hlt : j < n
  ·obtain ⟨b, o, x, rfl, _, hbl, hx, hc0, hc1, hc2, hc3⟩ := er_cells (hr.below hb) hlt
   have hs : L.take (j + 1) = L.take j ++ [x] := by rw [List.take_add_one, hx]; rfl
   have Hx := Lib.hid hx
   have Hs := Lib.hid hs
   have hodd := Hclo.out wr x hb (List.mem_of_getElem? hx)
   unfold erA at hodd
   obtain ⟨m, hm⟩ : ∃ m, m = oddE (en x) := ⟨_, rfl⟩
   rw [← hm] at hodd
   have Hodd := Lib.hid hodd
   have Hmm := Lib.hid hm
   clear hs hx hodd hm
   have hjn : (j : Int) < n := by omega
   rcases Bool.eq_false_or_eq_true m with hz | hz
   ·subst hz
    go_wp2_with fail
    refine Hodd.out.mono ?_
    rintro e w' ⟨rfl, hb2⟩
    go_wp2_with fail
    go_ret
    exact ⟨_, rfl, .inl ⟨j, x, rfl, Hx.out, Hmm.out.symm⟩, hb.trans (hb2.mono hb.size)⟩
   ·subst hz
    go_wp2_with fail
    refine Hodd.out.mono ?_
    rintro e w' ⟨rfl, hb2⟩
    go_wp2_with fail
    go_roundg (n - (j + 1))
    case measure => have := Hm.out; omega
    case rel =>
     refine ⟨j + 1, rfl, by omega, by go_num, ?_, hb.trans (hb2.mono hb.size)⟩
     intro y hy
     rw [Hs.out] at hy
     rcases List.mem_append.1 hy with hy | hy
     ·exact Hno.out y hy
     ·obtain rfl := List.mem_singleton.1 hy
      exact Hmm.out.symm
  ·obtain rfl : j = n := by omega
   go_wp2_with fail
   go_ret
   refine ⟨_, rfl, .inr ⟨rfl, ?_⟩, hb⟩
   have := Hno.out
   rwa [List.take_of_length_le (Nat.le_of_eq Hl.out)] at this
def evenL (l : List En) : Bool := l.all fun e => !oddE e
theorem evenL_no {l : List Er} {j : Nat} {x : Er} (h : l[j]? = some x) (hb : oddE (en x) = true) : evenL (l.map en) = false := by
 unfold evenL
 rw [List.all_eq_false]
 exact ⟨en x, List.mem_map_of_mem (List.mem_of_getElem? h), by rw [hb]; decide⟩
theorem ocon_any (A : Option Addr) (n c : Nat) (L : List Er) (w : World) {ok : Nat → Prop} (hr : Rd w ok 4 A n (flat ecell L)) (hd : Dat w L) (hn : n ≤ 1000000) :
  Calls Tryz.prog 156 #[.slice A n c, .func (.func 180) #[] #[]] w (BoolPost w (!evenL (L.map en))) := by
 have hidx := oidx_any A n c L w hr hd hn
 have Hidx := Lib.hid hidx
 clear hidx hr hd
 go_enter Tryz.func156, Tryz.ntmps156
 go_wp2_with fail
 refine Hidx.out.mono ?_
 rintro e w' ⟨k, rfl, hk, hb⟩
 rcases hk with ⟨j, x, rfl, hx, hbd⟩ | ⟨rfl, hno⟩
 ·have HF := Lib.hid (evenL_no hx hbd)
  have Hb := Lib.hid hb
  have h0 : (0 : Int) ≤ j := by omega
  clear hx hbd hb
  go_wp2_with fail
  go_ret
  exact ⟨ret_bool (by rw [HF.out]; rfl), Hb.out⟩
 ·have HF := Lib.hid (show evenL (L.map en) = true by
   unfold evenL
   rw [List.all_eq_true]
   intro y hy
   obtain ⟨z, hz, rfl⟩ := List.mem_map.1 hy
   rw [show oddE (en z) = false from hno z hz]
   rfl)
  have Hb := Lib.hid hb
  clear hno hb
  go_wp2_with fail
  go_ret
  exact ⟨ret_bool (by rw [HF.out]; rfl), Hb.out⟩
theorem Mr.c12 {W : World} {g : Nat} {x : Mr} (b : Bx W g x.cells) : W.cell? ⟨g, 0, none⟩ = some (.int .i64 x.kind) ∧ W.cell? ⟨g, 1, none⟩ = some (.int .i64 x.fr) ∧ W.cell? ⟨g, 2, none⟩ = some (.int .i64 x.dst) ∧ W.cell? ⟨g, 3, none⟩ = some (.int .i64 x.term) ∧ W.cell? ⟨g, 4, none⟩ = some (.int .i64 x.ix) ∧ W.cell? ⟨g, 5, none⟩ = some (.int .i64 x.lt) ∧ W.cell? ⟨g, 6, none⟩ = some (.int .i64 x.cm) ∧ W.cell? ⟨g, 7, none⟩ = some (.int .i64 x.rd) ∧ W.cell? ⟨g, 8, none⟩ = some (.bool x.ok) ∧ W.cell? ⟨g, 9, none⟩ = some (.int .i64 x.off) ∧ W.cell? ⟨g, 10, none⟩ = some (.slice x.D x.nd x.cd) ∧ W.cell? ⟨g, 11, none⟩ = some (.slice x.E x.ne x.ce) :=
 ⟨b.c 0, b.c 1, b.c 2, b.c 3, b.c 4, b.c 5, b.c 6, b.c 7, b.c 8, b.c 9, b.c 10, b.c 11⟩
theorem Mr.rng {W : World} {g : Nat} {x : Mr} (h : Bx W g (mcell x).toArray) : W.rangeAt g 0 (mcell x) := fun j v hv => by
 rw [Nat.zero_add, h.c j]
 simpa using hv
theorem may_of (m : Ms) : m.may = (winB 1 6 [m.kind] && winB 1 64 [m.fr, m.dst] && !(m.fr == m.dst) && winB 1 1099511627776 [m.term] && winB 0 1099511627776 [m.ix, m.lt, m.cm, m.rd, m.off] && decide (m.data.length ≤ 4096) && decide (m.es.length ≤ 64) && evenL m.es) := by
 have e : decide (m.fr = m.dst) = (m.fr == m.dst) := by
  by_cases h : m.fr = m.dst
  ·rw [decide_eq_true h, beq_iff_eq.2 h]
  ·rw [decide_eq_false h]; exact (by simpa using h : (m.fr == m.dst) = false).symm
 unfold Ms.may winB evenL
 rw [e]
 simp only [List.all_cons, List.all_nil, Bool.and_true, Bool.and_assoc]
set_option maxHeartbeats 6400000 in
theorem mmay_any (x : Mr) (w : World) {ok : Nat → Prop} (h : x.At w ok) (hn : x.ne ≤ 1000000) :
  Calls Tryz.prog 123 #[x.val] w (BoolPost w x.ms.may) := by
 obtain ⟨W0, hW0⟩ : ∃ W0, W0 = w.alloc (.cells x.cells 78) := ⟨_, rfl⟩
 have b0 : Bx W0 w.heap.size x.cells := by subst hW0; exact Bx.new _ _ _ rfl
 have hbe : Below w.heap.size w W0 := by subst hW0; exact (Below.refl _ _).alloc (Nat.le_refl _) _
 have l1 := h.d.blen
 have l2 := h.e.flen ecell_len (by omega)
 have hF : ∀ W, Below W0.heap.size W0 W → Bx W w.heap.size x.cells ∧ Below w.heap.size w W := fun W hb => ⟨b0.below hb, hbe.trans (hb.mono hbe.size)⟩
 have hcon := fun W (hb : Below W0.heap.size W0 W) => ocon_any x.E x.ne x.ce x.L W ((h.below (hF W hb).2).e) ((h.below (hF W hb).2).dat) hn
 have h1 := fun W => within_lit 1 6 [x.kind] W 1 #[.int .i64 x.kind] rfl rfl (by omega) 3
 have h2 := fun W => within_lit 1 64 [x.fr, x.dst] W 2 #[.int .i64 x.fr, .int .i64 x.dst] rfl rfl (by omega) 3
 have h4 := fun W => within_lit 1 1099511627776 [x.term] W 1 #[.int .i64 x.term] rfl rfl (by omega) 3
 have h5 := fun W => within_lit 0 1099511627776 [x.ix, x.lt, x.cm, x.rd, x.off] W 5 #[.int .i64 x.ix, .int .i64 x.lt, .int .i64 x.cm, .int .i64 x.rd, .int .i64 x.off] rfl rfl (by omega) 3
 obtain ⟨q, hq⟩ : ∃ q, x.ms.may = q := ⟨_, rfl⟩
 have hq' : q = (winB 1 6 [x.kind] && winB 1 64 [x.fr, x.dst] && !(x.fr == x.dst) && winB 1 1099511627776 [x.term] && winB 0 1099511627776 [x.ix, x.lt, x.cm, x.rd, x.off] && decide ((x.nd : Int) ≤ 4096) && decide ((x.ne : Int) ≤ 64) && evenL (x.L.map en)) := by
  rw [← hq, may_of]
  show (_ && _ && _ && _ && _ && decide (x.data.length ≤ 4096) && decide ((x.L.map en).length ≤ 64) && _) = _
  have g6 : decide (x.nd ≤ 4096) = decide ((x.nd : Int) ≤ 4096) := decide_eq_decide.2 (by omega)
  have g7 : decide (x.ne ≤ 64) = decide ((x.ne : Int) ≤ 64) := decide_eq_decide.2 (by omega)
  rw [List.length_map, l1, l2, g6, g7]
  rfl
 rw [hq]
 obtain ⟨p1, e1⟩ : ∃ p, winB 1 6 [x.kind] = p := ⟨_, rfl⟩
 obtain ⟨p2, e2⟩ : ∃ p, winB 1 64 [x.fr, x.dst] = p := ⟨_, rfl⟩
 obtain ⟨p3, e3⟩ : ∃ p, (x.fr == x.dst) = p := ⟨_, rfl⟩
 obtain ⟨p4, e4⟩ : ∃ p, winB 1 1099511627776 [x.term] = p := ⟨_, rfl⟩
 obtain ⟨p5, e5⟩ : ∃ p, winB 0 1099511627776 [x.ix, x.lt, x.cm, x.rd, x.off] = p := ⟨_, rfl⟩
 obtain ⟨p6, e6⟩ : ∃ p, decide ((x.nd : Int) ≤ 4096) = p := ⟨_, rfl⟩
 obtain ⟨p7, e7⟩ : ∃ p, decide ((x.ne : Int) ≤ 64) = p := ⟨_, rfl⟩
 obtain ⟨p8, e8⟩ : ∃ p, evenL (x.L.map en) = p := ⟨_, rfl⟩
 simp only [e1] at h1
 simp only [e2] at h2
 simp only [e4] at h4
 simp only [e5] at h5
 simp only [e8] at hcon
 rw [e1, e2, e3, e4, e5, e6, e7, e8] at hq'
 obtain ⟨c0, c1, c2, c3, c4, c5, c6, c7, c8, c9, c10, c11⟩ := Mr.c12 b0
 have HW := Lib.hid hW0
 have H1 := Lib.hid h1
 have H2 := Lib.hid h2
 have H4 := Lib.hid h4
 have H5 := Lib.hid h5
 have H8 := Lib.hid hcon
 have Q := Lib.hid hq'
 have F := Lib.hid hF
 clear hW0 b0 hbe h1 h2 h4 h5 hcon hq hq' e1 e2 e4 e5 e8 l1 l2 h hF hn
 unfold Mr.val
 go_enter Tryz.func123, Tryz.ntmps123
 go_upto_region 1 with (fail)
 have HW' := HW.out
 unfold Mr.cells at HW'
 rw [← HW']
 clear HW'
 cases p1 with
 | false =>
  go_wp2_with fail
  refine (H1.out W0).mono ?_
  rintro e w1 ⟨rfl, hb⟩
  have K1 := Lib.hid (hb)
  clear hb
  go_wp2_with fail
  go_ret
  exact ⟨ret_bool (by rw [Q.out]; rfl), (F.out _ K1.out).2⟩
 | true =>
  go_wp2_with fail
  refine (H1.out W0).mono ?_
  rintro e w1 ⟨rfl, hb⟩
  have K1 := Lib.hid (hb)
  clear hb
  clear c0 c1 c2 c3 c4 c5 c6 c7 c8 c9 c10 c11
  obtain ⟨c0, c1, c2, c3, c4, c5, c6, c7, c8, c9, c10, c11⟩ := Mr.c12 (F.out _ K1.out).1
  cases p2 with
  | false =>
   go_wp2_with fail
   refine (H2.out w1).mono ?_
   rintro e w2 ⟨rfl, hb⟩
   have K2 := Lib.hid (K1.out.trans (hb.mono K1.out.size))
   clear hb
   go_wp2_with fail
   go_ret
   exact ⟨ret_bool (by rw [Q.out]; rfl), (F.out _ K2.out).2⟩
  | true =>
   go_wp2_with fail
   refine (H2.out w1).mono ?_
   rintro e w2 ⟨rfl, hb⟩
   have K2 := Lib.hid (K1.out.trans (hb.mono K1.out.size))
   clear hb
   clear c0 c1 c2 c3 c4 c5 c6 c7 c8 c9 c10 c11
   obtain ⟨c0, c1, c2, c3, c4, c5, c6, c7, c8, c9, c10, c11⟩ := Mr.c12 (F.out _ K2.out).1
   cases p3 with
   | true =>
    go_wp2_with fail
    go_ret
    exact ⟨ret_bool (by rw [Q.out]; rfl), (F.out _ K2.out).2⟩
   | false =>
    cases p4 with
    | false =>
     go_wp2_with fail
     refine (H4.out w2).mono ?_
     rintro e w3 ⟨rfl, hb⟩
     have K3 := Lib.hid (K2.out.trans (hb.mono K2.out.size))
     clear hb
     go_wp2_with fail
     go_ret
     exact ⟨ret_bool (by rw [Q.out]; rfl), (F.out _ K3.out).2⟩
    | true =>
     go_wp2_with fail
     refine (H4.out w2).mono ?_
     rintro e w3 ⟨rfl, hb⟩
     have K3 := Lib.hid (K2.out.trans (hb.mono K2.out.size))
     clear hb
     clear c0 c1 c2 c3 c4 c5 c6 c7 c8 c9 c10 c11
     obtain ⟨c0, c1, c2, c3, c4, c5, c6, c7, c8, c9, c10, c11⟩ := Mr.c12 (F.out _ K3.out).1
     cases p5 with
     | false =>
      go_wp2_with fail
      refine (H5.out w3).mono ?_
      rintro e w4 ⟨rfl, hb⟩
      have K4 := Lib.hid (K3.out.trans (hb.mono K3.out.size))
      clear hb
      go_wp2_with fail
      go_ret
      exact ⟨ret_bool (by rw [Q.out]; rfl), (F.out _ K4.out).2⟩
     | true =>
      go_wp2_with fail
      refine (H5.out w3).mono ?_
      rintro e w4 ⟨rfl, hb⟩
      have K4 := Lib.hid (K3.out.trans (hb.mono K3.out.size))
      clear hb
      clear c0 c1 c2 c3 c4 c5 c6 c7 c8 c9 c10 c11
      obtain ⟨c0, c1, c2, c3, c4, c5, c6, c7, c8, c9, c10, c11⟩ := Mr.c12 (F.out _ K4.out).1
      cases p6 with
      | false =>
       go_wp2_with fail
       go_ret
       exact ⟨ret_bool (by rw [Q.out]; rfl), (F.out _ K4.out).2⟩
      | true =>
       cases p7 with
       | false =>
        go_wp2_with fail
        go_ret
        exact ⟨ret_bool (by rw [Q.out]; rfl), (F.out _ K4.out).2⟩
       | true =>
        go_wp2_with fail
        refine (H8.out w4 K4.out).mono ?_
        rintro e w5 ⟨rfl, hb⟩
        have K5 := Lib.hid (K4.out.trans (hb.mono K4.out.size))
        clear hb
        cases p8 with
        | false =>
         go_wp2_with fail
         go_ret
         exact ⟨ret_bool (by rw [Q.out]; rfl), (F.out _ K5.out).2⟩
        | true =>
         go_wp2_with fail
         go_ret
         exact ⟨ret_bool (by rw [Q.out]; rfl), (F.out _ K5.out).2⟩
theorem check_ms (x : Mr) (w : World) {ok : Nat → Prop} (h : x.At w ok) (hn : x.ne ≤ 1000000) :
  Calls Tryz.prog 64 #[x.val] w (fun e w' => e = .returned (errE (if x.ms.may = true then 0 else 1)) ∧ Below w.heap.size w w') := by
 obtain ⟨W0, hW0⟩ : ∃ W0, W0 = w.alloc (.cells x.cells 78) := ⟨_, rfl⟩
 have b0 : Bx W0 w.heap.size x.cells := by subst hW0; exact Bx.new _ _ _ rfl
 have hbe : Below w.heap.size w W0 := by subst hW0; exact (Below.refl _ _).alloc (Nat.le_refl _) _
 have hm := mmay_any x W0 (h.below hbe) hn
 have hrg : W0.rangeAt w.heap.size 0 (mcell x) := Mr.rng b0
 obtain ⟨q, hq⟩ : ∃ q, x.ms.may = q := ⟨_, rfl⟩
 rw [hq] at hm ⊢
 have HW := Lib.hid hW0
 have Hm := Lib.hid hm
 have Hrg := Lib.hid hrg
 have B := Lib.hid hbe
 clear hW0 b0 hbe hm hrg h hn hq
 unfold Mr.val at Hm ⊢
 unfold mcell at Hrg
 go_enter Tryz.func64, Tryz.ntmps64
 go_upto_region 1 with (fail)
 have HW' := HW.out
 unfold Mr.cells at HW'
 rw [← HW']
 clear HW'
 refine wp_region_lit ?_
 refine wpList_load_mid rfl _ _ rfl _ _ rfl _ _ Hrg.out Tryz.underlying78 rfl rfl ?_
 cases q with
 | false =>
  go_wp2_with fail
  refine Hm.out.mono ?_
  rintro e w1 ⟨rfl, hb1⟩
  have K := Lib.hid (B.out.trans (hb1.mono B.out.size))
  clear hb1
  go_wp2_with fail
  go_ret
  exact ⟨rfl, K.out⟩
 | true =>
  go_wp2_with fail
  refine Hm.out.mono ?_
  rintro e w1 ⟨rfl, hb1⟩
  have K := Lib.hid (B.out.trans (hb1.mono B.out.size))
  clear hb1
  go_wp2_with fail
  go_ret
  exact ⟨rfl, K.out⟩
def Mb.tv (m : Mb) (tm vt : Int) : Mb := { m with s := { m.s with tm := tm, vt := vt } }
section
variable {fb p : Nat} {W w w' W2 : World} {V U V' U' : Nat → Prop} {C C' : Cr} {m m' : Mb}
theorem CX.tv (h : CX fb w p V U C m) {tm vt : Int} (hb : Bx w' p ((m.tv tm vt).cells C')) (hk : w.grownBy w' (some p)) (h1 : C'.s = { C.s with tm := tm, vt := vt }) (h2 : C'.peers = C.peers) (h3 : C'.votes = C.votes) (h4 : C'.hv = C.hv) :
  CTo fb w p V U C' w' V U (m.tv tm vt) := by
 have hp : U p := h.vu p h.vp
 have hbl : ∀ b, b < w.heap.size → b ≠ p → w'.heap[b]? = w.heap[b]? := fun b hl hb => hk.block b hl fun e => hb (by injection e)
 refine ⟨⟨hb, ?_, h.vp, h.vq, h.qp, h.vv, h.vu, h.vf, fun b hb => Nat.lt_of_lt_of_le (h.ul b hb) hk.size, ?_, ?_, ?_, ?_, h.hk⟩, fun _ h => .inl h, fun _ h => h, fun _ h => .inl h, (Kept.refl V w).grown hk fun b e => by injection e with e; subst e; exact h.vp⟩
 ·rw [h2]; exact h.pm.keep (hbl _ h.pm.lt h.qp)
 ·rw [h3]
  refine ⟨h.vt.1, ?_⟩
  rcases h.vt.2 with h1 | ⟨g, cap, cur, h1, h2, h3, h4⟩
  ·exact .inl h1
  ·refine .inr ⟨g, cap, cur, h1, h2, ?_, h4⟩
   rw [hbl g (Array.getElem?_eq_some_iff.1 h3).1 (h.vv g (by injection h1 with h1; rw [h1]; rfl)).2.1, h3]
 ·have ha := h.at_.keep (W' := w') fun b hb hl => hbl b hl (fun e => hb (e ▸ hp))
  exact ⟨ha.l, ha.d, ha.cf, ha.sn, ha.k1, ha.k2, ha.k3⟩
 ·rw [h1, ← h.st]
  rfl
 ·rw [h4]; exact h.hv.keep fun b hb hl => hbl b hl (fun e => hb (e ▸ hp))
theorem Rm.one {x : Mr} {B : Nat} (hB : B ≤ W.heap.size) (hx : x.At W (B ≤ ·)) : Rm (W.alloc (.cells x.cells 78)) B (some ⟨W.heap.size, 0, none⟩) 1 1 [x] := by
 refine ⟨?_, fun y hy => ?_⟩
 ·have h := own_mono (own_lit1 (W := W) (e := 78) (cs := x.cells) (k := 12) rfl) hB
  have e : flat mcell [x] = x.cells.toList := by
   show mcell x ++ [] = _
   rw [List.append_nil]
   rfl
  rw [e]
  exact h
 ·obtain rfl := List.mem_singleton.1 hy
  refine (hx.lt.below ((Below.refl _ _).alloc (Nat.le_refl _) _)).mono fun b hb => ⟨hb.1, fun e => ?_⟩
  injection e with e
  have := hb.2
  have e : W.heap.size = b := e
  omega
theorem out_one {x : Mr} (hw : w.heap.size ≤ W.heap.size) (h : CTo fb w p V U C' W V' U' m') (hx : x.At W (w.heap.size ≤ ·)) (hu : x.At W (fun b => ¬ U' b)) :
  OutPost fb w p V U (C', [x.ms]) (.returned (.slice (some ⟨W.heap.size, 0, none⟩) 1 1)) (W.alloc (.cells x.cells 78)) :=
 ⟨_, 1, 1, [x], V', U', m', rfl, Rm.one hw hx, rfl, (fun y hy => by
  obtain rfl := List.mem_singleton.1 hy
  exact hu.below ((Below.refl _ _).alloc (Nat.le_refl _) _)), h.below ((Below.refl _ _).alloc (Nat.le_refl _) _)⟩
theorem out_none {e : Ending} (he : e = .returned (.slice none 0 0)) (h : CTo fb w p V U C' W V' U' m') : OutPost fb w p V U (C', []) e W :=
 ⟨none, 0, 0, [], V', U', m', he, Rm.nil _ _, rfl, (fun y hy => by cases hy), h⟩
theorem Mr.At.bare (W : World) (ok : Nat → Prop) (k f d t ix lt cm rd : Int) (o : Bool) (off : Int) : (⟨k, f, d, t, ix, lt, cm, rd, o, off, none, 0, 0, [], none, 0, 0, []⟩ : Mr).At W ok :=
 ⟨Rd.none_, ⟨Nat.le_refl _, by simp [maxLen]⟩, Rd.none_, (fun y hy => by cases hy), ⟨Nat.le_refl _, by simp [maxLen]⟩⟩
end
def Cr.voteOk (C : Cr) (x : Ms) : Bool := (x.term == C.s.tm) && ((C.s.vt == 0) || (C.s.vt == x.fr)) && newB C.s.b C.s.t C.s.l x.ix x.lt
theorem beq_dec (a b : Int) : decide (a = b) = (a == b) := by
 by_cases h : a = b
 ·rw [decide_eq_true h, beq_iff_eq.2 h]
 ·rw [decide_eq_false h]; exact (by simpa using h : (a == b) = false).symm
theorem vote_eq (C : Cr) (x : Ms) (draw : Int) : C.vote x draw = (if C.voteOk x = true then ({ C with s := { C.s with vt := x.fr } } : Cr).draws draw else C, [{ C.say 2 x.fr with ok := C.voteOk x }]) := by
 unfold Cr.vote Cr.voteOk
 simp only [beq_dec]
set_option maxHeartbeats 6400000 in
theorem vote_any {fb p : Nat} {w : World} {V U : Nat → Prop} {C : Cr} {m : Mb} {k : Nat} (x : Mr) (draw : Int) (h : CX fb w p V U C m) (ho : C.Ok k) :
  Calls Tryz.prog 67 #[.pointer (some ⟨p, 0, none⟩), x.val, .int .i64 draw] w (OutPost fb w p V U (C.vote x.ms draw)) := by
 obtain ⟨W0, hW0⟩ : ∃ W0, W0 = w.alloc (.cells x.cells 78) := ⟨_, rfl⟩
 have b0 : Bx W0 w.heap.size x.cells := by subst hW0; exact Bx.new _ _ _ rfl
 have hbe : Below w.heap.size w W0 := by subst hW0; exact (Below.refl _ _).alloc (Nat.le_refl _) _
 have hz0 : W0.heap.size = w.heap.size + 1 := by subst hW0; simp
 have hf := h.fit ho
 have hsay := say_any 2 x.fr (h.below hbe)
 obtain ⟨k1, k2, k3, k4, k5, k6, k7⟩ := h.s_eq
 have hnew := fun W (hb : Below W0.heap.size W0 W) => newer_any m.s.b m.s.t x.ix x.lt m.s.A m.s.n m.s.c m.s.L W ((h.below hbe).below hb).at_.l (h.at_.wel hf) hf.z.1
 have eN : newB m.s.b m.s.t (m.s.L.map en) x.ix x.lt = newB C.s.b C.s.t C.s.l x.ix x.lt := by rw [k3, k4, k5]
 rw [eN] at hnew
 obtain ⟨okv, hok⟩ : ∃ q, C.voteOk x.ms = q := ⟨_, rfl⟩
 have hok' : okv = ((x.term == C.s.tm) && ((C.s.vt == 0) || (C.s.vt == x.fr)) && newB C.s.b C.s.t C.s.l x.ix x.lt) := by rw [← hok]; rfl
 have HO := Lib.hid hok
 obtain ⟨qt, e1⟩ : ∃ q, (x.term == C.s.tm) = q := ⟨_, rfl⟩
 obtain ⟨v0, e2⟩ : ∃ q, (C.s.vt == 0) = q := ⟨_, rfl⟩
 obtain ⟨v1, e3⟩ : ∃ q, (C.s.vt == x.fr) = q := ⟨_, rfl⟩
 obtain ⟨qn, e4⟩ : ∃ q, newB C.s.b C.s.t C.s.l x.ix x.lt = q := ⟨_, rfl⟩
 rw [e1, e2, e3, e4] at hok'
 rw [e4] at hnew
 obtain ⟨free, hfree⟩ : ∃ f, (v0 || v1) = f := ⟨_, rfl⟩
 rw [hfree] at hok'
 have HW := Lib.hid hW0
 have H := Lib.hid (And.intro h (And.intro ho (And.intro b0 (And.intro hbe hz0))))
 have Hsay := Lib.hid hsay
 have Hnew := Lib.hid hnew
 have Hok := Lib.hid hok'
 have Hfr := Lib.hid hfree
 have HK := Lib.hid (And.intro k1 (And.intro k2 (And.intro k3 k4)))
 have P0 : ∀ W, Below w.heap.size w W → W.cell? ⟨p, 0, none⟩ = some (.int .i64 C.s.tm) ∧ W.cell? ⟨p, 1, none⟩ = some (.int .i64 C.s.vt) ∧ W.cell? ⟨p, 2, none⟩ = some (.int .i64 m.s.b) ∧ W.cell? ⟨p, 3, none⟩ = some (.int .i64 m.s.t) ∧ W.cell? ⟨p, 4, none⟩ = some (.slice m.s.A m.s.n m.s.c) := fun W hb => by
  have hx := (h.below hb).bx
  refine ⟨?_, ?_, hx.c 2, hx.c 3, hx.c 4⟩
  ·rw [← k1]; exact hx.c 0
  ·rw [← k2]; exact hx.c 1
 have HP := Lib.hid P0
 clear hW0 b0 hbe hz0 hf hsay k1 k2 k3 k4 k5 k6 k7 hnew eN hok hok' e4 h ho hfree P0
 unfold Mr.val
 go_enter Tryz.func67, Tryz.ntmps67
 obtain ⟨c0, c1, c2, c3, c4, c5, c6, c7, c8, c9, c10, c11⟩ := Mr.c12 H.out.2.2.1
 go_upto_region 1 with (fail)
 have HW' := HW.out
 unfold Mr.cells at HW'
 rw [← HW']
 clear HW'
 go_wp2_with fail
 refine Hsay.out.mono ?_
 rintro e w1 ⟨rfl, hb1⟩
 unfold Mr.val Cr.sayM
 dsimp only
 go_upto_region 2 with (fail)
 obtain ⟨W2, hW2⟩ : ∃ W2, W2 = w1.alloc (.cells #[.int .i64 2, .int .i64 C.id, .int .i64 x.fr, .int .i64 C.s.tm, .int .i64 0, .int .i64 0, .int .i64 0, .int .i64 0, .bool false, .int .i64 0, .slice none 0 0, .slice none 0 0] 78) := ⟨_, rfl⟩
 have z2 : Bx W2 w1.heap.size #[.int .i64 2, .int .i64 C.id, .int .i64 x.fr, .int .i64 C.s.tm, .int .i64 0, .int .i64 0, .int .i64 0, .int .i64 0, .bool false, .int .i64 0, .slice none 0 0, .slice none 0 0] := by subst hW2; exact Bx.new w1 _ 78 rfl
 have b12 : Below w1.heap.size w1 W2 := by subst hW2; exact (Below.refl _ _).alloc (Nat.le_refl _) _
 have b02 : Below W0.heap.size W0 W2 := hb1.trans (b12.mono hb1.size)
 rw [← hW2]
 have K2 := Lib.hid (And.intro z2 (And.intro b02 hb1.size))
 clear hW2 z2 b12 b02 hb1 c0 c1 c2 c3 c4 c5 c6 c7 c8 c9 c10 c11
 have hpz : p < w.heap.size := H.out.1.bx.lt
 have F2 : Hid (∀ W, Below w1.heap.size W2 W → (W.cell? ⟨p, 0, none⟩ = some (.int .i64 C.s.tm) ∧ W.cell? ⟨p, 1, none⟩ = some (.int .i64 C.s.vt) ∧ W.cell? ⟨p, 2, none⟩ = some (.int .i64 m.s.b) ∧ W.cell? ⟨p, 3, none⟩ = some (.int .i64 m.s.t) ∧ W.cell? ⟨p, 4, none⟩ = some (.slice m.s.A m.s.n m.s.c)) ∧ W.cell? ⟨w.heap.size, 1, none⟩ = some (.int .i64 x.fr) ∧ W.cell? ⟨w.heap.size, 3, none⟩ = some (.int .i64 x.term) ∧ W.cell? ⟨w.heap.size, 4, none⟩ = some (.int .i64 x.ix) ∧ W.cell? ⟨w.heap.size, 5, none⟩ = some (.int .i64 x.lt)) := Lib.hid fun W hb => by
  have hb0 : Below W0.heap.size W0 W := K2.out.2.1.trans (hb.mono K2.out.2.2)
  have hx := H.out.2.2.1.below hb0
  exact ⟨HP.out W (H.out.2.2.2.1.trans (hb0.mono H.out.2.2.2.1.size)), hx.c 1, hx.c 3, hx.c 4, hx.c 5⟩
 go_cut [8] (fun s8 W => s8 = .bool free ∧ Below W2.heap.size W2 W)
 case first =>
  obtain ⟨⟨p0, p1, p2, p3, p4⟩, q1, q3, q4, q5⟩ := F2.out W2 (Below.refl _ _)
  cases v0 with
  | true =>
   go_region
   all_goals
    go_wp2_with fail
    go_meet
    case rel => exact ⟨by rw [← Hfr.out]; rfl, (Below.refl _ _).drew⟩
  | false =>
   go_region
   all_goals
    go_wp2_with fail
    go_meet
    case rel => exact ⟨by rw [← Hfr.out]; cases v1 <;> rfl, (Below.refl _ _).drew⟩
 case rest =>
  obtain ⟨rfl, hb3⟩ := hcut
  have B3 := Lib.hid hb3
  clear hb3 e2 e3
  obtain ⟨⟨p0, p1, p2, p3, p4⟩, q1, q3, q4, q5⟩ := F2.out wc (B3.out.mono (by have := K2.out.1.lt; omega))
  obtain ⟨w3, hw3⟩ : ∃ w3, w3 = wc := ⟨_, rfl⟩
  rw [← hw3] at B3 p0 p1 p2 p3 p4 q1 q3 q4 q5 ⊢
  clear hw3
  have z3 := K2.out.1.below B3.out
  have F3 : Hid (∀ W, Below w1.heap.size w3 W → (W.cell? ⟨p, 0, none⟩ = some (.int .i64 C.s.tm) ∧ W.cell? ⟨p, 1, none⟩ = some (.int .i64 C.s.vt) ∧ W.cell? ⟨p, 2, none⟩ = some (.int .i64 m.s.b) ∧ W.cell? ⟨p, 3, none⟩ = some (.int .i64 m.s.t) ∧ W.cell? ⟨p, 4, none⟩ = some (.slice m.s.A m.s.n m.s.c)) ∧ W.cell? ⟨w.heap.size, 1, none⟩ = some (.int .i64 x.fr) ∧ W.cell? ⟨w.heap.size, 3, none⟩ = some (.int .i64 x.term) ∧ W.cell? ⟨w.heap.size, 4, none⟩ = some (.int .i64 x.ix) ∧ W.cell? ⟨w.heap.size, 5, none⟩ = some (.int .i64 x.lt)) := Lib.hid fun W hb => F2.out W ((B3.out.mono (by have := K2.out.1.lt; omega)).trans hb)
  have r8 : w3.cell? ⟨w1.heap.size, 8, none⟩ = some (.bool false) := z3.c 8
  have f8 : w3.frozen? ⟨w1.heap.size, 8, none⟩ = false := z3.f 8
  have Z3 := Lib.hid z3
  have hz3 := Lib.hid z3.lt
  clear z3 p0 p1 p2 p3 p4 q1 q3 q4 q5
  go_upto_region 3 with (fail)
  go_cut [] (fun W => ∃ w4, Below w3.heap.size w3 w4 ∧ W = w4.setCell ⟨w1.heap.size, 8, none⟩ (.bool okv))
  case first =>
   cases qt with
   | false =>
    obtain rfl : okv = false := by rw [Hok.out]; rfl
    refine wp_region_S 24 (fun W => Below w1.heap.size w3 W) (.take 0 (.take 1 (.take 2 (.take 3 (.take 4 (.take 5 (.take 6 (.take 7 (.take 8 (.take 9 (.take 10 (.take 11 (.take 12 (.take 13 (.take 14 (.take 15 (.take 16 (.take 17 (.take 18 (.take 19 (.take 20 (.one 21 (.take 22 (.take 23 (.one 24 (.nil)))))))))))))))))))))))))) (by kernel_rfl) (Below.refl _ _).drew (fun _ _ _ _ h => h) (fun hS => ?_)
    repeat (first
     | (refine wpS_take (v := ?_) rfl rfl (by rfl) ?_ ?_; rotate_left; (intro W hW; have hf := F3.out W hW; go_split_ands; go_simp; try with_reducible rfl); try simp only [Act.put, lyA, lyB, lyC])
     | (refine wpS_skip rfl rfl (by rfl) ?_; try simp only [Act.put, lyA, lyB, lyC]))
    refine wpS_pass rfl rfl (by rfl) ?_
    try simp only [Act.put, lyA, lyB, lyC]
    repeat (first
     | (refine wpS_take (v := ?_) rfl rfl (by rfl) ?_ ?_; rotate_left; (intro W hW; have hf := F3.out W hW; go_split_ands; go_simp; try with_reducible rfl); try simp only [Act.put, lyA, lyB, lyC])
     | (refine wpS_skip rfl rfl (by rfl) ?_; try simp only [Act.put, lyA, lyB, lyC]))
    refine wpS_one rfl (by rfl) (fun K hK => ?_)
    go_simp
    refine hK (fun W => Below w1.heap.size w3 W) _ _ (fun _ h => h) (hS.setCell (p := ⟨w1.heap.size, 8, none⟩) (Nat.le_refl _) _) ?_
    clear hK K
    try simp only [Act.put, lyA, lyB, lyC]
    refine wpS_nil ?_
    go_wp2_with fail
    go_meet
    case rel => exact ⟨_, (Below.refl _ _).drew, rfl⟩
   | true =>
    cases free with
    | false =>
     obtain rfl : okv = false := by rw [Hok.out]; rfl
     refine wp_region_S 24 (fun W => Below w1.heap.size w3 W) (.take 0 (.take 1 (.take 2 (.take 3 (.take 4 (.take 5 (.take 6 (.take 7 (.take 8 (.take 9 (.take 10 (.take 11 (.take 12 (.take 13 (.take 14 (.take 15 (.take 16 (.take 17 (.take 18 (.take 19 (.take 20 (.one 21 (.take 22 (.take 23 (.one 24 (.nil)))))))))))))))))))))))))) (by kernel_rfl) (Below.refl _ _).drew (fun _ _ _ _ h => h) (fun hS => ?_)
     repeat (first
      | (refine wpS_take (v := ?_) rfl rfl (by rfl) ?_ ?_; rotate_left; (intro W hW; have hf := F3.out W hW; go_split_ands; go_simp; try with_reducible rfl); try simp only [Act.put, lyA, lyB, lyC])
      | (refine wpS_skip rfl rfl (by rfl) ?_; try simp only [Act.put, lyA, lyB, lyC]))
     refine wpS_pass rfl rfl (by rfl) ?_
     try simp only [Act.put, lyA, lyB, lyC]
     repeat (first
      | (refine wpS_take (v := ?_) rfl rfl (by rfl) ?_ ?_; rotate_left; (intro W hW; have hf := F3.out W hW; go_split_ands; go_simp; try with_reducible rfl); try simp only [Act.put, lyA, lyB, lyC])
      | (refine wpS_skip rfl rfl (by rfl) ?_; try simp only [Act.put, lyA, lyB, lyC]))
     refine wpS_one rfl (by rfl) (fun K hK => ?_)
     go_simp
     refine hK (fun W => Below w1.heap.size w3 W) _ _ (fun _ h => h) (hS.setCell (p := ⟨w1.heap.size, 8, none⟩) (Nat.le_refl _) _) ?_
     clear hK K
     try simp only [Act.put, lyA, lyB, lyC]
     refine wpS_nil ?_
     go_wp2_with fail
     go_meet
     case rel => exact ⟨_, (Below.refl _ _).drew, rfl⟩
    | true =>
     obtain rfl : okv = qn := by rw [Hok.out]; rfl
     refine wp_region_S 24 (fun W => Below w1.heap.size w3 W) (.take 0 (.take 1 (.take 2 (.take 3 (.take 4 (.take 5 (.take 6 (.take 7 (.take 8 (.take 9 (.take 10 (.take 11 (.take 12 (.take 13 (.take 14 (.take 15 (.take 16 (.take 17 (.take 18 (.take 19 (.take 20 (.one 21 (.take 22 (.take 23 (.one 24 (.nil)))))))))))))))))))))))))) (by kernel_rfl) (Below.refl _ _).drew (fun _ _ _ _ h => h) (fun hS => ?_)
     repeat (first
      | (refine wpS_take (v := ?_) rfl rfl (by rfl) ?_ ?_; rotate_left; (intro W hW; have hf := F3.out W hW; go_split_ands; go_simp; try with_reducible rfl); try simp only [Act.put, lyA, lyB, lyC])
      | (refine wpS_skip rfl rfl (by rfl) ?_; try simp only [Act.put, lyA, lyB, lyC]))
     refine wpS_one rfl (by rfl) (fun K hK => ?_)
     go_simp
     go_at_call 124
     refine (Hnew.out _ (K2.out.2.1.trans (((B3.out.mono K2.out.2.1.size).trans (hS.mono K2.out.2.2))))).mono ?_
     rintro e w5 ⟨rfl, hb5⟩
     have hS5 : Below w1.heap.size w3 w5 := hS.trans (hb5.mono (by have := hz3.out; show w1.heap.size ≤ w3.drew.heap.size; simpa using (by omega : w1.heap.size ≤ w3.heap.size)))
     have H5 : Hid (Below w3.heap.size w3 w5) := Lib.hid ((Below.refl _ _).drew.trans hb5)
     have r8' : w5.cell? ⟨w1.heap.size, 8, none⟩ = some (.bool false) := (H5.out.cell (p := ⟨w1.heap.size, 8, none⟩) hz3.out).trans r8
     have f8' : w5.frozen? ⟨w1.heap.size, 8, none⟩ = false := (Z3.out.below H5.out).f 8
     clear hb5
     refine hK (fun W => Below w1.heap.size w3 W) _ _ (fun _ h => h) hS5 ?_
     clear hK K
     try simp only [Act.put, lyA, lyB, lyC]
     repeat (first
      | (refine wpS_take (v := ?_) rfl rfl (by rfl) ?_ ?_; rotate_left; (intro W hW; have hf := F3.out W hW; go_split_ands; go_simp; try with_reducible rfl); try simp only [Act.put, lyA, lyB, lyC])
      | (refine wpS_skip rfl rfl (by rfl) ?_; try simp only [Act.put, lyA, lyB, lyC]))
     refine wpS_one rfl (by rfl) (fun K hK => ?_)
     go_simp
     refine hK (fun W => Below w1.heap.size w3 W) _ _ (fun _ h => h) (hS5.setCell (p := ⟨w1.heap.size, 8, none⟩) (Nat.le_refl _) _) ?_
     clear hK K
     try simp only [Act.put, lyA, lyB, lyC]
     refine wpS_nil ?_
     go_wp2_with fail
     go_meet
     case rel => exact ⟨_, H5.out, rfl⟩
  case rest =>
   obtain ⟨w4, hb4, hwc⟩ := hcut
   have z4 : Bx wc w1.heap.size #[.int .i64 2, .int .i64 C.id, .int .i64 x.fr, .int .i64 C.s.tm, .int .i64 0, .int .i64 0, .int .i64 0, .int .i64 0, .bool okv, .int .i64 0, .slice none 0 0, .slice none 0 0] := by rw [hwc]; exact (Z3.out.below hb4).set 8 _
   have hbb : Below W0.heap.size W0 w4 := K2.out.2.1.trans ((B3.out.trans (hb4.mono B3.out.size)).mono K2.out.2.1.size)
   have hbc : Below W0.heap.size W0 wc := by rw [hwc]; exact hbb.setCell (p := ⟨w1.heap.size, 8, none⟩) K2.out.2.2 _
   have hx0 := H.out.2.2.1.below hbc
   have hbw := H.out.2.2.2.1.trans (hbc.mono H.out.2.2.2.1.size)
   have hc := H.out.1.below hbw
   have hwz : w1.heap.size ≤ wc.heap.size := Nat.le_of_lt z4.lt
   have X := Lib.hid (And.intro z4 (And.intro hbc (And.intro hbw hc)))
   obtain ⟨g0, g1, g2, g3, g4, g5, g6, g7, g8, g9, g10, g11⟩ := Bx.c12 z4
   clear hwc hbb hb4 r8 f8
   obtain ⟨w6, hw6⟩ : ∃ w6, w6 = wc := ⟨_, rfl⟩
   rw [← hw6] at X g0 g1 g2 g3 g4 g5 g6 g7 g8 g9 g10 g11 ⊢
   clear hw6 z4 hbc hx0 hbw hc hwz
   cases okv with
   | false =>
    go_wp2_with fail
    go_ret
    rw [vote_eq, HO.out, if_neg (by decide)]
    have hto := (CTo.refl H.out.1).below X.out.2.2.1
    exact out_one (x := ⟨2, C.id, x.fr, C.s.tm, 0, 0, 0, 0, false, 0, none, 0, 0, [], none, 0, 0, []⟩) X.out.2.2.1.size hto (Mr.At.bare _ _ _ _ _ _ _ _ _ _ _ _) (Mr.At.bare _ _ _ _ _ _ _ _ _ _ _ _)
   | true =>
    have p1 : w6.cell? ⟨p, 1, none⟩ = some (.int .i64 m.s.vt) := X.out.2.2.2.bx.c 1
    have fp1 := X.out.2.2.2.bx.f 1
    have q1 : w6.cell? ⟨w.heap.size, 1, none⟩ = some (.int .i64 x.fr) := (H.out.2.2.1.below X.out.2.1).c 1
    have hsp := H.out.2.1.span
    have hdr := draws_any p _ C.span draw (w6.setCell ⟨p, 1, none⟩ (.int .i64 x.fr)) (X.out.2.2.2.bx.set 1 (.int .i64 x.fr)) rfl (by show 14 < 19; omega) hsp.1 hsp.2
    have Hdr := Lib.hid hdr
    clear hdr hsp g0 g1 g2 g3 g4 g5 g6 g7 g9 g10 g11
    go_wp2_with fail
    refine Hdr.out.mono ?_
    rintro e w7 ⟨rfl, x7, gb7⟩
    have hne : w1.heap.size ≠ p := by have := H.out.1.bx.lt; have := K2.out.2.2; have := H.out.2.2.2.2; omega
    have gb : w6.grownBy w7 (some p) := gb_trans (gb_set w6 p 1 _) gb7
    have z7 : Bx w7 w1.heap.size #[.int .i64 2, .int .i64 C.id, .int .i64 x.fr, .int .i64 C.s.tm, .int .i64 0, .int .i64 0, .int .i64 0, .int .i64 0, .bool true, .int .i64 0, .slice none 0 0, .slice none 0 0] := X.out.1.keep (gb.block _ X.out.1.lt fun e => hne (Option.some.inj e))
    obtain ⟨g0, g1, g2, g3, g4, g5, g6, g7, g8', g9, g10, g11⟩ := Bx.c12 z7
    have hto : CTo fb w p V U (({ C with s := { C.s with vt := x.fr } } : Cr).draws draw) w7 V U (m.tv m.s.tm x.fr) := by
     have h1 := X.out.2.2.2.tv (tm := m.s.tm) (vt := x.fr) (C' := ({ C with s := { C.s with vt := x.fr } } : Cr).draws draw) x7 gb (by show ({ C.s with vt := x.fr } : St) = _; rw [HK.out.1]) rfl rfl rfl
     exact (h1.up X.out.2.2.1)
    have T7 := Lib.hid (And.intro hto (Nat.le_trans X.out.2.2.1.size gb.size))
    clear x7 gb7 gb z7 hto hne g8
    go_wp2_with fail
    go_ret
    rw [vote_eq, HO.out, if_pos rfl]
    exact out_one (x := ⟨2, C.id, x.fr, C.s.tm, 0, 0, 0, 0, true, 0, none, 0, 0, [], none, 0, 0, []⟩) T7.out.2 T7.out.1 (Mr.At.bare _ _ _ _ _ _ _ _ _ _ _ _) (Mr.At.bare _ _ _ _ _ _ _ _ _ _ _ _)
def highE (t : Int) (l : List Er) : Bool := l.any fun e => decide (t < e.b)
theorem ahead_of (x : Mr) : x.ms.ahead = (highE x.term x.L || decide (x.term < x.lt)) := by
 unfold Ms.ahead highE
 show (((x.L.map en).any fun e => decide (x.term < e.b)) || _) = _
 rw [List.any_map]
 rfl
set_option maxHeartbeats 3200000 in
theorem ahead_any (x : Mr) (w : World) {ok : Nat → Prop} (h : x.At w ok) (hn : x.ne ≤ 1000000) :
  Calls Tryz.prog 65 #[x.val] w (BoolPost w x.ms.ahead) := by
 obtain ⟨W0, hW0⟩ : ∃ W0, W0 = w.alloc (.cells x.cells 78) := ⟨_, rfl⟩
 have b0 : Bx W0 w.heap.size x.cells := by subst hW0; exact Bx.new _ _ _ rfl
 have hbe : Below w.heap.size w W0 := by subst hW0; exact (Below.refl _ _).alloc (Nat.le_refl _) _
 have hl := h.e.flen ecell_len (by omega)
 have hr := (h.below hbe).e
 rw [ahead_of]
 obtain ⟨c0, c1, c2, c3, c4, c5, c6, c7, c8, c9, c10, c11⟩ := Mr.c12 b0
 have HW := Lib.hid hW0
 have B := Lib.hid (And.intro b0 (And.intro hbe hl))
 obtain ⟨A, hA⟩ : ∃ A, A = x.E := ⟨_, rfl⟩
 rw [← hA] at hr c11
 have HA := Lib.hid hA
 clear hW0 b0 hbe hl h hA
 unfold Mr.val
 go_enter Tryz.func65, Tryz.ntmps65
 go_upto_region 1 with (fail)
 have HW' := HW.out
 unfold Mr.cells at HW'
 rw [← HW']
 clear HW'
 go_wp2_with fail
 go_loopg [4, 8] x.ne (fun gm s4 s8 wr => ∃ j : Nat, gm = x.ne - j ∧ j ≤ x.ne ∧ s8 = .int .i64 j ∧ highE x.term (x.L.take j) = false ∧ Below W0.heap.size W0 wr)
 case atStart => exact ⟨0, by omega, by omega, rfl, rfl, Below.refl _ _⟩
 case round =>
  obtain ⟨j, hm, hj, rfl, hno, hb⟩ := hrel
  have Hm := Lib.hid hm
  have Hno := Lib.hid hno
  have Hb := Lib.hid hb
  clear hm hno c0 c1 c2 c3 c4 c5 c6 c7 c8 c9 c10 c11
  obtain ⟨c0, c1, c2, c3, c4, c5, c6, c7, c8, c9, c10, c11⟩ := Mr.c12 (B.out.1.below Hb.out)
  rw [← HA.out] at c11
  have hlt0 : w.heap.size < wr.heap.size := World.block_lt_of_cell? wr _ c0
  by_cases hlt : j < x.ne
  ·obtain ⟨b, o, y, rfl, _, hbl, hy, d0, d1, d2, d3⟩ := er_cells (hr.below hb) hlt
   have hjI : decide ((j : Int) < (x.ne : Int)) = true := decide_eq_true (by omega)
   have Hy := Lib.hid hy
   obtain ⟨W1, hW1⟩ : ∃ W1, W1 = wr.alloc (.cells #[.int .i64 y.a, .int .i64 y.b, .int .i64 y.c, .slice y.A y.n y.m] 62) := ⟨_, rfl⟩
   have b1 : Bx W1 wr.heap.size #[.int .i64 y.a, .int .i64 y.b, .int .i64 y.c, .slice y.A y.n y.m] := by subst hW1; exact Bx.new _ _ _ rfl
   have hb1 : Below wr.heap.size wr W1 := by subst hW1; exact (Below.refl _ _).alloc (Nat.le_refl _) _
   have HW1 := Lib.hid hW1
   have B1 := Lib.hid (And.intro b1 (Hb.out.trans (hb1.mono Hb.out.size)))
   clear hy hb b1 hb1 hW1
   go_upto_region 4 with (fail)
   rw [← HW1.out]
   have q1 := B1.out.1.c 1
   clear c0 c1 c2 c3 c4 c5 c6 c7 c8 c9 c10 c11 d0 d1 d2 d3
   obtain ⟨c0, c1, c2, c3, c4, c5, c6, c7, c8, c9, c10, c11⟩ := Mr.c12 (B.out.1.below B1.out.2)
   by_cases hg : x.term < y.b
   ·have hgI : decide (x.term < y.b) = true := decide_eq_true hg
    have Q := Lib.hid (show (highE x.term x.L || decide (x.term < x.lt)) = true by
     have : highE x.term x.L = true := by
      unfold highE
      rw [List.any_eq_true]
      exact ⟨y, List.mem_of_getElem? Hy.out, hgI⟩
     rw [this]; rfl)
    go_wp2_with fail
    go_ret
    exact ⟨ret_bool Q.out.symm, B.out.2.1.trans (B1.out.2.mono B.out.2.1.size)⟩
   ·have hgI : decide (x.term < y.b) = false := decide_eq_false hg
    have HS := Lib.hid (show highE x.term (x.L.take (j + 1)) = false by
     rw [List.take_add_one, Hy.out]
     unfold highE at Hno ⊢
     rw [List.any_append, Hno.out]
     simp [hg])
    go_wp2_with fail
    go_roundg (x.ne - (j + 1))
    case measure => have := Hm.out; omega
    case rel => exact ⟨j + 1, rfl, by omega, by go_num, HS.out, B1.out.2⟩
  ·obtain rfl : j = x.ne := by omega
   have hjI : decide ((x.ne : Int) < (x.ne : Int)) = false := decide_eq_false (by omega)
   have Q := Lib.hid (show (highE x.term x.L || decide (x.term < x.lt)) = decide (x.term < x.lt) by
    have := Hno.out
    rw [List.take_of_length_le (Nat.le_of_eq B.out.2.2)] at this
    rw [this]; rfl)
   go_wp2_with fail
   go_ret
   exact ⟨ret_bool Q.out.symm, B.out.2.1.trans (Hb.out.mono B.out.2.1.size)⟩
end Go.Proofs.YtmhaahcbmdhinaaGreatDoor
