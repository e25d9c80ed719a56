/- A pack.Reader of the call's own: what it reads; its acts up to the digits.
   A pack.Reader: the letter, the digits.
   A pack.Reader: what its acts take off.
   A pack.Reader: numbers up to a bound, counts, bytes.
   A pack.Reader: counts, bytes.
   Plain law of decimal digits: no program in sight. -/
import Derived.Test.YtmhaahcbmdhinaaGreatDoorZM2
import Derived.Test.YtmhaahcbmdhinaaGreatDoorZM0
import Derived.Test.YtmhaahcbmdhinaaGreatDoorZM1
import Derived.WalkMore
import Derived.Deep.LoopGhost
import Derived.Deep.DeepCutAuto
import Derived.Lib.ConvBytes
import Derived.Lib.AtoiErrMem
namespace Go.Proofs.YtmhaahcbmdhinaaGreatDoor
open Go.RowKit
set_option maxRecDepth 100000
set_option linter.unusedVariables false
set_option linter.unusedSimpArgs false
def errE (k : Int) : Value := if k = 0 then .nilIface else .iface 105 (.int .i64 k)
theorem errE0 : errE 0 = .nilIface := rfl
theorem errE_ne {k : Int} (h : k ≠ 0) : errE k = .iface 105 (.int .i64 k) := if_neg h
def EvW (W : World) (p : Nat) : Prop := ∃ te pe tr pr, W.cell? ⟨4, 0, none⟩ = some (.iface te pe) ∧ W.cell? ⟨5, 0, none⟩ = some (.iface tr pr) ∧ 4 < p ∧ 5 < p
theorem EvW.below {W W' : World} {p B : Nat} (h : EvW W p) (hb : Below B W W') (hB : p ≤ B) : EvW W' p := by
 obtain ⟨te, pe, tr, pr, h1, h2, h3, h4⟩ := h
 exact ⟨te, pe, tr, pr, (hb.cell (p := ⟨4, 0, none⟩) (Nat.lt_of_lt_of_le h3 hB)).trans h1, (hb.cell (p := ⟨5, 0, none⟩) (Nat.lt_of_lt_of_le h4 hB)).trans h2, h3, h4⟩
structure Rr (W : World) (p : Nat) (s : RdS) : Prop where
 ex : ∃ A n c, W.heap[p]? = some (.cells #[.slice A n c, errE s.2] 306 (0, 0)) ∧ Rd W (· < p) 1 A n (bs s.1) ∧ n ≤ c ∧ c ≤ maxLen
 ev : EvW W p
def RdPost (W : World) (p : Nat) (s : RdS) (v : Value) (e : Ending) (w' : World) : Prop := e = .returned v ∧ Rr w' p s ∧ W.grownBy w' (some p)
theorem gb_below {W W' : World} {p : Nat} (h : W.grownBy W' (some p)) (hp : p < W.heap.size) : Below p W W' := ⟨h.os, h.tape, h.output, h.size, fun i hi => h.block i (by omega) (fun e => by injection e; omega)⟩
theorem Rr.cells {W : World} {p : Nat} {s : RdS} (h : Rr W p s) : ∃ A n c, W.cell? ⟨p, 0, none⟩ = some (.slice A n c) ∧ W.cell? ⟨p, 1, none⟩ = some (errE s.2) ∧ W.frozen? ⟨p, 0, none⟩ = false ∧ W.frozen? ⟨p, 1, none⟩ = false ∧ Rd W (· < p) 1 A n (bs s.1) ∧ n ≤ c ∧ c ≤ maxLen := by
 obtain ⟨A, n, c, h1, h2, h3, h4⟩ := h.ex
 exact ⟨A, n, c, cell_of_row W p 0 _ _ (0, 0) h1, cell_of_row W p 1 _ _ (0, 0) h1, by simp [World.frozen?, h1], by simp [World.frozen?, h1], h2, h3, h4⟩
theorem Rr.lt {W : World} {p : Nat} {s : RdS} (h : Rr W p s) : p < W.heap.size := by
 obtain ⟨A, n, c, h1, _⟩ := h.ex
 exact (Array.getElem?_eq_some_iff.1 h1).1
theorem gb_set (W : World) (p i : Nat) (v : Value) : W.grownBy (W.setCell ⟨p, i, none⟩ v) (some p) :=
 ⟨rfl, rfl, rfl, by simp [World.setCell], fun k _ hk => Below.heap_setCell _ _ _ k (fun e => hk (by rw [e]))⟩
theorem EvW.set {W : World} {p q : Nat} (h : EvW W p) (hq : p ≤ q) (i : Nat) (v : Value) : EvW (W.setCell ⟨q, i, none⟩ v) p :=
 h.below ((Below.refl p W).setCell (p := ⟨q, i, none⟩) hq v) (Nat.le_refl _)
theorem Rr.err {W : World} {p : Nat} {s : RdS} (h : Rr W p s) (k : Int) : Rr (W.setCell ⟨p, 1, none⟩ (errE k)) p (s.1, k) := by
 obtain ⟨A, n, c, h1, h2, h3⟩ := h.ex
 exact ⟨⟨A, n, c, by simp [World.setCell, Array.getElem?_modify, h1], h2.setCell (p := ⟨p, 1, none⟩) (Nat.lt_irrefl p) _, h3⟩, h.ev.set (Nat.le_refl _) _ _⟩
theorem Rr.to {W : World} {p : Nat} {s : RdS} (h : Rr W p s) {A' : Option Addr} {n' c' : Nat} {l' : List UInt8} (hr : Rd W (· < p) 1 A' n' (bs l')) (h1 : n' ≤ c') (h2 : c' ≤ maxLen) : Rr (W.setCell ⟨p, 0, none⟩ (.slice A' n' c')) p (l', s.2) := by
 obtain ⟨A, n, c, e1, _⟩ := h.ex
 exact ⟨⟨A', n', c', by simp [World.setCell, Array.getElem?_modify, e1], hr.setCell (p := ⟨p, 0, none⟩) (Nat.lt_irrefl p) _, h1, h2⟩, h.ev.set (Nat.le_refl _) _ _⟩
theorem Rr.gb {W W' : World} {p : Nat} {s : RdS} (h : Rr W p s) (hb : Below W.heap.size W W') : Rr W' p s := by
 obtain ⟨A, n, c, h1, h2, h3⟩ := h.ex
 exact ⟨⟨A, n, c, (hb.block p h.lt).trans h1, h2.below hb, h3⟩, h.ev.below hb (Nat.le_of_lt h.lt)⟩
theorem below_gb {W W' : World} {p : Nat} (hb : Below W.heap.size W W') : W.grownBy W' (some p) := ⟨hb.os, hb.tape, hb.output, hb.size, fun i hi _ => hb.block i hi⟩
theorem gb_trans {W W' W'' : World} {p : Nat} (h : W.grownBy W' (some p)) (h' : W'.grownBy W'' (some p)) : W.grownBy W'' (some p) :=
 ⟨h'.os.trans h.os, h'.tape.trans h.tape, h'.output.trans h.output, Nat.le_trans h.size h'.size, fun i hi hn => (h'.block i (Nat.lt_of_lt_of_le hi h.size) hn).trans (h.block i hi hn)⟩
theorem read_any (A : Option Addr) (n c : Nat) (l : List UInt8) (w : World) {ok : Nat → Prop} (hr : Rd w ok 1 A n (bs l)) (h1 : n ≤ c) (h2 : c ≤ maxLen) (hev : EvW w w.heap.size) :
  Calls Tryz.prog 172 #[.slice A n c] w (fun e w' => e = .returned (.pointer (some ⟨w.heap.size, 0, none⟩)) ∧ Rr w' w.heap.size (l, 0) ∧ Below w.heap.size w w') := by
 have hb0 := (Below.refl w.heap.size w).alloc (Nat.le_refl _) (.cells #[.slice A n c, .nilIface] 306)
 have R0 : Rr (w.alloc (.cells #[.slice A n c, .nilIface] 306)) w.heap.size (l, 0) := ⟨⟨A, n, c, heap_alloc_new _ _, ((hr.lt (by omega)).mono fun b hb => hb.2).below hb0, h1, h2⟩, hev.below hb0 (Nat.le_refl _)⟩
 have R := Lib.hid (And.intro R0 hb0)
 clear hr hev R0 hb0
 go_enter Tryz.func172, Tryz.ntmps172
 go_wp2_with fail
 go_ret
 exact ⟨rfl, R.out⟩
theorem fails_any (p : Nat) (s : RdS) (k : Int) (w : World) (h : Rr w p s) :
  Calls Tryz.prog 211 #[.pointer (some ⟨p, 0, none⟩), errE k] w (RdPost w p (s.1, if s.2 = 0 then k else s.2) (.bool (decide ((if s.2 = 0 then k else s.2) ≠ 0)))) := by
 obtain ⟨A, n, c, c0, c1, f0, f1, -⟩ := h.cells
 by_cases hs : s.2 = 0
 ·rw [hs, errE0] at c1
  rw [if_pos hs]
  have he := h.err k
  have hg := gb_set w p 1 (errE k)
  by_cases hk : k = 0
  ·subst hk
   have H := Lib.hid (And.intro he hg)
   rw [errE0] at H ⊢
   clear h he hg hs
   go_enter Tryz.func211, Tryz.ntmps211
   go_wp2_with fail
   go_ret
   exact ⟨by simp, H.out⟩
  ·have H := Lib.hid (And.intro he hg)
   have hd : decide (k ≠ 0) = true := by simpa using hk
   rw [errE_ne hk] at H ⊢
   rw [hd]
   clear h he hg hs hd hk
   go_enter Tryz.func211, Tryz.ntmps211
   go_wp2_with fail
   go_ret
   exact ⟨rfl, H.out⟩
 ·rw [errE_ne hs] at c1
  rw [if_neg hs]
  have H := Lib.hid (And.intro (show Rr w p (s.1, s.2) from h) (below_gb (p := p) (Below.refl _ w)))
  have hd : decide (s.2 ≠ 0) = true := by simpa using hs
  rw [hd]
  clear h hs hd
  by_cases hk : k = 0
  ·subst hk
   rw [errE0]
   go_enter Tryz.func211, Tryz.ntmps211
   go_wp2_with fail
   go_ret
   exact ⟨rfl, H.out⟩
  ·rw [errE_ne hk]
   go_enter Tryz.func211, Tryz.ntmps211
   go_wp2_with fail
   go_ret
   exact ⟨rfl, H.out⟩
theorem done_rd (p : Nat) (s : RdS) (w : World) (h : Rr w p s) :
  Calls Tryz.prog 175 #[.pointer (some ⟨p, 0, none⟩)] w (fun e w' => e = .returned (errE (doneS s)) ∧ w' = w) := by
 obtain ⟨A, n, c, c0, c1, f0, f1, hr, -⟩ := h.cells
 have hl := hr.blen
 by_cases hs : s.2 = 0
 ·by_cases hn : n = 0
  ·have hd : doneS s = 0 := by
    unfold doneS
    rw [if_neg (fun hh => hh.2 (List.eq_nil_of_length_eq_zero (by omega))), hs]
   rw [hd, errE0]
   rw [hs, errE0] at c1
   subst hn
   clear h hr hl hs hd
   go_enter Tryz.func175, Tryz.ntmps175
   go_wp2_with fail
   go_ret
   exact ⟨rfl, rfl⟩
  ·have hd : doneS s = 3 := by
    unfold doneS
    rw [if_pos ⟨hs, fun hh => by rw [hh] at hl; simp at hl; omega⟩]
   rw [hd]
   rw [hs, errE0] at c1
   have hnI : (0 : Int) < n := by omega
   clear h hr hl hs hd
   go_enter Tryz.func175, Tryz.ntmps175
   go_wp2_with fail
   go_ret
   exact ⟨rfl, rfl⟩
 ·have hd : doneS s = s.2 := by
   unfold doneS
   rw [if_neg (fun hh => hs hh.1)]
  rw [hd]
  rw [errE_ne hs] at c1 ⊢
  clear h hr hl hs hd
  go_enter Tryz.func175, Tryz.ntmps175
  go_wp2_with fail
  go_ret
  exact ⟨rfl, rfl⟩
theorem index_any (A : Option Addr) (n c : Nat) (l : List UInt8) (v : UInt8) (w : World) {ok : Nat → Prop} (hr : Rd w ok 1 A n (bs l)) (hn : n ≤ 1000000) :
  Calls Tryz.prog 259 #[.slice A n c, .int .u8 (v.toNat : Int)] w (fun e w' => (∃ z : Int, e = .returned (.int .i64 z) ∧ (0 ≤ z ↔ v ∈ l) ∧ -1 ≤ z ∧ z ≤ 1000000) ∧ w' = w) := by
 have hl := hr.blen
 have Hr := Lib.hid hr
 have Hl := Lib.hid hl
 clear hr hl
 go_enter Tryz.func259, Tryz.ntmps259
 go_wp2_with fail
 go_loopg [5, 8] n (fun m s5 s8 wr => ∃ j : Nat, m = n - j ∧ j ≤ n ∧ s8 = .int .i64 j ∧ v ∉ l.take j ∧ wr = w)
 case atStart => exact ⟨0, by omega, by omega, rfl, by simp, rfl⟩
 case round =>
  obtain ⟨j, hm, hj, rfl, hv, rfl⟩ := hrel
  have Hm := Lib.hid hm
  have Hv := Lib.hid hv
  clear hm hv
  by_cases hlt : j < n
  ·obtain ⟨ad, rfl, _, hc⟩ := Hr.out.byte hlt
   obtain ⟨b, o, sp⟩ := ad
   have hjI : (j : Int) < n := by omega
   have hj0 : (0 : Int) ≤ j := by omega
   have hwj : IntKind.i64.wrap ((j : Int) + 1) = (j : Int) + 1 := by rw [IntKind.wrap_i64]; omega
   by_cases he : l.getD j 0 = v
   ·rw [he] at hc
    have hq : ((v.toNat : Int) == (v.toNat : Int)) = true := by simp
    go_wp2_with fail
    go_ret
    have hl := Hl.out
    have hin : v ∈ l := by
     rw [← he, List.getD_eq_getElem?_getD, List.getElem?_eq_getElem (by omega)]
     exact List.getElem_mem _
    exact ⟨⟨j, rfl, ⟨fun _ => hin, fun _ => by omega⟩, by omega, by omega⟩, rfl⟩
   ·have hq : ((v.toNat : Int) == ((l.getD j 0).toNat : Int)) = false := by
     simp only [beq_eq_false_iff_ne, ne_eq]
     intro h
     exact he (UInt8.toNat_inj.1 (by omega)).symm
    have hnext : v ∉ l.take (j + 1) := by
     have hl := Hl.out
     have hg : l.getD j 0 = l[j]'(by omega) := by rw [List.getD_eq_getElem?_getD, List.getElem?_eq_getElem (by omega)]; rfl
     rw [List.take_add_one, List.getElem?_eq_getElem (by omega), List.mem_append]
     rintro (h | h)
     ·exact Hv.out h
     ·simp only [Option.toList, List.mem_singleton] at h
      exact he (hg.trans h.symm)
    have Hn := Lib.hid hnext
    clear he hnext
    generalize ((l.getD j 0).toNat : Int) = z at hc hq
    go_wp2_with fail
    go_roundg (n - (j + 1))
    case measure => have := Hm.out; omega
    case rel => exact ⟨j + 1, rfl, by omega, by go_num, Hn.out, rfl⟩
  ·obtain rfl : j = n := by omega
   go_wp2_with fail
   go_ret
   have hv := Hv.out
   rw [List.take_of_length_le (Nat.le_of_eq Hl.out)] at hv
   exact ⟨⟨-1, rfl, ⟨fun h => absurd h (by omega), fun h => absurd h hv⟩, by omega, by omega⟩, rfl⟩
theorem contains_any (A : Option Addr) (n c : Nat) (l : List UInt8) (v : UInt8) (w : World) {ok : Nat → Prop} (hr : Rd w ok 1 A n (bs l)) (hn : n ≤ 1000000) :
  Calls Tryz.prog 254 #[.slice A n c, .int .u8 (v.toNat : Int)] w (fun e w' => e = .returned (.bool (decide (v ∈ l))) ∧ w' = w) := by
 have hi := index_any A n c l v w hr hn
 have Hi := Lib.hid hi
 clear hi hr
 go_enter Tryz.func254, Tryz.ntmps254
 go_wp2_with fail
 refine Hi.out.mono ?_
 rintro e w1 ⟨⟨z, rfl, hz, h1, h2⟩, rfl⟩
 have Hz := Lib.hid hz
 clear hz
 by_cases h0 : 0 ≤ z
 ·go_wp2_with fail
  go_ret
  rw [decide_eq_true (Hz.out.1 h0)]
  exact ⟨rfl, rfl⟩
 ·have hd : decide (0 ≤ z) = false := decide_eq_false h0
  go_wp2_with fail
  go_ret
  rw [decide_eq_false (fun h => by have := Hz.out.2 h; omega)]
  exact ⟨rfl, rfl⟩
def headE (x : UInt8) : List UInt8 → Int
 | [] => 12
 | c :: _ => if c = x then 0 else 3
theorem begin_any (p : Nat) (s : RdS) (x : UInt8) (w : World) (h : Rr w p s) :
  Calls Tryz.prog 242 #[.pointer (some ⟨p, 0, none⟩), .string ⟨#[x]⟩] w (fun e w' => e = .returned (errE (headE x s.1)) ∧ Below w.heap.size w w') := by
 obtain ⟨A, n, c, c0, c1, f0, f1, hr, -⟩ := h.cells
 have hl := hr.blen
 by_cases hn : n = 0
 ·subst hn
  have e : headE x s.1 = 12 := by rw [List.eq_nil_of_length_eq_zero hl]; rfl
  rw [e]
  clear h hr hl e
  go_enter Tryz.func242, Tryz.ntmps242
  go_wp2_with fail
  go_ret
  exact ⟨rfl, Below.refl _ _⟩
 ·obtain ⟨y, r, hyr⟩ : ∃ y r, s.1 = y :: r := by
   cases hs : s.1 with
   | nil => rw [hs] at hl; simp at hl; omega
   | cons y r => exact ⟨y, r, rfl⟩
  obtain ⟨ad, rfl, _, hc⟩ := hr.byte (k := 0) (by omega)
  have e0 : (s.1.getD 0 0) = y := by rw [hyr]; rfl
  rw [e0] at hc
  obtain ⟨b, o, sp⟩ := ad
  have hbl : b < w.heap.size := World.block_lt_of_cell? w _ (show w.cell? ⟨b, o, sp⟩ = _ from hc)
  have hpl := h.lt
  have hcv := Lib.run_convert_string_bytes (P := Tryz.prog) w 9 26 5 ⟨#[x]⟩ Tryz.underlying9 Tryz.underlying26 Tryz.underlying5
  have hbw := Lib.bytesWorld_below w 5 ⟨#[x]⟩
  have hnew : Rd (Lib.bytesWorld w 5 ⟨#[x]⟩) T 1 (some ⟨w.heap.size, 0, none⟩) 1 (bs [x]) := by
   refine ⟨rfl, fun _ => ⟨_, rfl, trivial, fun j u hu => ?_⟩⟩
   have hj : j = 0 := by
    have := (List.getElem?_eq_some_iff.1 hu).1
    simp [bs] at this
    exact this
   subst hj
   have := Lib.bytesWorld_cell w 5 ⟨#[x]⟩ 0 (by show (0 : Nat) < 1; omega)
   simp only [bs, List.map_cons, List.map_nil, List.getElem?_cons_zero, Option.some.injEq] at hu
   rw [← hu]
   exact this
  obtain ⟨W1, hW1⟩ : ∃ W1, W1 = Lib.bytesWorld w 5 ⟨#[x]⟩ := ⟨_, rfl⟩
  obtain ⟨cc, hcc⟩ : ∃ cc, cc = grownCap w (⟨#[x]⟩ : ByteArray).size 0 5 := ⟨_, rfl⟩
  rw [← hW1, ← hcc] at hcv
  rw [← hW1] at hbw hnew
  have hcon := contains_any (some ⟨w.heap.size, 0, none⟩) 1 cc [x] y W1 hnew (by omega)
  have k0 : W1.cell? ⟨p, 0, none⟩ = some (.slice (some ⟨b, o, sp⟩) n c) := (hbw.cell (p := ⟨p, 0, none⟩) hpl).trans c0
  have k2 : W1.cell? ⟨b, o, sp⟩ = some (.int .u8 (y.toNat : Int)) := (hbw.cell (p := ⟨b, o, sp⟩) hbl).trans hc
  have hsz : (⟨#[x]⟩ : ByteArray).size = 1 := rfl
  rw [hsz] at hcv
  have hn1 : (n : Int) ≠ 0 := by omega
  have hn2 : ((n : Int) == 0) = false := by simpa using hn1
  have hn3 : (0 : Int) < n := by omega
  have Hcon := Lib.hid hcon
  have Hbw := Lib.hid hbw
  have he : headE x s.1 = if y = x then 0 else 3 := by rw [hyr]; rfl
  rw [he]
  clear h hr hl hnew hcon hbw hW1 hcc e0 hyr he
  by_cases hxy : y = x
  ·subst hxy
   rw [if_pos rfl]
   have hd : decide (y ∈ [y]) = true := by simp
   rw [hd] at Hcon
   clear hd
   go_enter Tryz.func242, Tryz.ntmps242
   go_wp2_with fail
   refine Hcon.out.mono ?_
   rintro e w1 ⟨rfl, rfl⟩
   go_wp2_with fail
   go_ret
   exact ⟨rfl, Hbw.out⟩
  ·rw [if_neg hxy]
   have hd : decide (y ∈ [x]) = false := by simpa using hxy
   rw [hd] at Hcon
   clear hd hxy
   go_enter Tryz.func242, Tryz.ntmps242
   go_wp2_with fail
   refine Hcon.out.mono ?_
   rintro e w1 ⟨rfl, rfl⟩
   go_wp2_with fail
   go_ret
   exact ⟨rfl, Hbw.out⟩
def numV (a : Nat) : Int ⊕ (Nat × Nat) → Value
 | .inl e => .tuple #[.int .u64 0, .int .i64 0, errE e]
 | .inr (u, k) => .tuple #[.int .u64 (u : Nat), .int .i64 ((a + k + 1 : Nat) : Int), .nilIface]
theorem numV_inr (a u k : Nat) : numV a (.inr (u, k)) = .tuple #[.int .u64 (u : Nat), .int .i64 ((a + k + 1 : Nat) : Int), .nilIface] := rfl
theorem numV_inl (a : Nat) (e : Int) : numV a (.inl e) = .tuple #[.int .u64 0, .int .i64 0, errE e] := rfl
set_option maxHeartbeats 3200000 in
theorem digits_rd (A : Option Addr) (n c : Nat) (l : List UInt8) (a : Nat) (sg : UInt8) (w : World) {ok : Nat → Prop} (hr : Rd w ok 1 A n (bs l)) (h1 : n ≤ c) (h2 : c ≤ maxLen) (ha : a ≤ n) {q : Nat} (hev : EvW w q) :
  Calls Tryz.prog 243 #[.slice A n c, .int .i64 (a : Nat), .int .u8 (sg.toNat : Int)] w (fun e w' => e = .returned (numV a (dscan sg [] (l.drop a))) ∧ Below w.heap.size w w') := by
 have hl := hr.blen
 have hmc : maxLen = 9223372036854775807 := by decide
 obtain ⟨R, hR⟩ : ∃ R, dscan sg [] (l.drop a) = R := ⟨_, rfl⟩
 rw [hR]
 have Hr := Lib.hid hr
 have Hl := Lib.hid hl
 have HR := Lib.hid hR
 have Hev := Lib.hid hev
 have Hc := Lib.hid (And.intro h1 (And.intro h2 hmc))
 clear hr hl hR hev h1 h2 hmc
 go_enter Tryz.func243, Tryz.ntmps243
 go_wp2_with fail
 go_loopg [9] (n - a) (fun m s9 wr => ∃ j i : Nat, m = n - i ∧ i = a + j ∧ i ≤ n ∧ j ≤ 20 ∧ s9 = .int .i64 i ∧ R = dscan sg ((l.drop a).take j) (l.drop i) ∧ wr = w)
 case atStart => exact ⟨0, a, by omega, by omega, by omega, by omega, rfl, by rw [← HR.out]; simp, rfl⟩
 case round =>
  clear HR
  obtain ⟨j, i, hm, hi, hj, hj2, rfl, hR, rfl⟩ := hrel
  have Hm := Lib.hid hm
  have Hi := Lib.hid hi
  have HR := Lib.hid hR
  clear hm hi hR
  by_cases hlt : i < n
  ·obtain ⟨ad, rfl, _, hc⟩ := Hr.out.byte hlt
   obtain ⟨b, o, sp⟩ := ad
   have hiI : (i : Int) < n := by omega
   have hi0 : (0 : Int) ≤ i := by omega
   have hwi : IntKind.i64.wrap ((i : Int) + 1) = (i : Int) + 1 := by have := Hc.out; rw [IntKind.wrap_i64]; omega
   have hwj : IntKind.i64.wrap ((i : Int) - (a : Int)) = (j : Int) := by have := Hc.out; have := Hi.out; rw [IntKind.wrap_i64]; omega
   have hg : l.getD i 0 = l[i]'(by have := Hl.out; omega) := by rw [List.getD_eq_getElem?_getD, List.getElem?_eq_getElem (by have := Hl.out; omega)]; rfl
   have hdrop : l.drop i = l[i]'(by have := Hl.out; omega) :: l.drop (i + 1) := List.drop_eq_getElem_cons (by have := Hl.out; omega)
   have htk : (l.drop a).take (j + 1) = (l.drop a).take j ++ [l[i]'(by have := Hl.out; omega)] := by
    have := Hi.out
    have := Hl.out
    rw [List.take_add_one, List.getElem?_drop, ← Hi.out, List.getElem?_eq_getElem (by omega)]
    rfl
   have htl : ((l.drop a).take j).length = j := by have := Hi.out; have := Hl.out; simp; omega
   rw [hg] at hc
   have hR2 := HR.out
   rw [hdrop, dscan] at hR2
   have hc256 := (l[i]'(by have := Hl.out; omega)).toNat_lt
   generalize l[i]'(by have := Hl.out; omega) = ch at hc hR2 htk hc256
   by_cases hs : ch = sg
   ·subst hs
    rw [if_pos rfl] at hR2
    have hq : ((ch.toNat : Int) != (ch.toNat : Int)) = false := by simp
    clear hg hdrop htk
    obtain ⟨ds, hds⟩ : ∃ ds, (l.drop a).take j = ds := ⟨_, rfl⟩
    rw [hds] at hR2 htl
    obtain ⟨hc1, hc2, hc3⟩ := Hc.out
    have hia := Hi.out
    have hsl : ∀ W, (Instr.sliceAt 26 (.slice (some ⟨b, o, sp⟩) n c) (some (.int .i64 (a : Int))) (some (.int .i64 (i : Int))) none).run Tryz.prog W = .ok (.slice (if c = a then some ⟨b, o, sp⟩ else (some ⟨b, o, sp⟩ : Option Addr).map (·.add (a * 1))) (i - a) (c - a)) W := fun W => run_slice_lohi (P := Tryz.prog) 26 Tryz.underlying26 (size := 1) (by kernel_rfl) (some ⟨b, o, sp⟩) n c W a i (by omega) (by omega)
    have hrs := Hr.out.bsub (i := a) (k := j) (m := c) (by omega) (by omega)
    rw [hds] at hrs
    rw [show i - a = j by omega, Nat.mul_one] at hsl
    generalize (if c = a then some ⟨b, o, sp⟩ else (some ⟨b, o, sp⟩ : Option Addr).map (·.add a)) = A5 at hsl hrs
    have hcv := conv_bytes (P := Tryz.prog) (c := c - a) 26 9 5 Tryz.underlying26 Tryz.underlying5 Tryz.underlying9 hrs
    have haI : (a : Int) ≤ i := by omega
    have ha0 : (0 : Int) ≤ a := by omega
    have hiC : (i : Int) ≤ c := by omega
    have hgei : ¬ (n : Int) ≤ i := by omega
    have hged : decide ((n : Int) ≤ (i : Int)) = false := decide_eq_false hgei
    have hdl : (⟨ds.toArray⟩ : ByteArray).data.toList = ds := rfl
    have hdz : (⟨ds.toArray⟩ : ByteArray).size = j := by rw [← htl]; exact List.size_toArray
    have hwi1 : IntKind.i64.wrap ((a : Int) + 1) = (a : Int) + 1 := by rw [IntKind.wrap_i64]; omega
    have bad : ∀ (te : TypeId) (pe : Value) (z : Int) (W1 : World), dnum ds = .inl 3 → Lib.parseUintB 64 ds = Lib.parseUintB 64 ds → True := fun _ _ _ _ _ _ => trivial
    clear bad hrs hia
    cases hp : Lib.parseUintB 64 ds with
    | ok u =>
     have hj1 : 1 ≤ j := by
      rcases Nat.eq_zero_or_pos j with h0 | h0
      ·exfalso
       have : ds = [] := List.eq_nil_of_length_eq_zero (by omega)
       rw [this] at hp
       cases hp
      ·exact h0
     have hpu := Tryz.strconv_ParseUint_10_at64_ok ⟨ds.toArray⟩ (by omega) u (by rw [hdl]; exact hp) wr
     obtain ⟨ad2, e2, _, hc2'⟩ := Hr.out.byte (k := a) (by have := Hi.out; omega)
     injection e2 with e2
     subst e2
     have hfirst : ds.head? = some (l.getD a 0) := by
      have := Hl.out
      have := Hi.out
      rw [← hds, List.head?_take, if_neg (by omega), List.head?_drop, List.getElem?_eq_getElem (by omega), List.getD_eq_getElem?_getD, List.getElem?_eq_getElem (by omega)]
      rfl
     have hbl : b < wr.heap.size := by have := World.block_lt_of_cell? wr _ hc; rwa [block_of_add] at this
     have hR3 : R = if (l.getD a 0).toNat = 48 ∧ 1 < j then .inl 3 else .inr (u, j) := by
      rw [hR2]
      unfold dnum
      rw [hp, hfirst, htl]
      dsimp only
      congr 1
      simp only [Option.some.injEq, eq_iff_iff]
      constructor
      ·rintro ⟨h1, h2⟩
       exact ⟨by rw [h1]; rfl, h2⟩
      ·rintro ⟨h1, h2⟩
       exact ⟨UInt8.toNat_inj.1 (by rw [h1]; rfl), h2⟩
     have HR3 := Lib.hid hR3
     have Hpu := Lib.hid hpu
     generalize l.getD a 0 = c1 at hc2' HR3
     have C2 := Lib.hid hc2'
     clear hR2 hR3 hpu hfirst hdl hdz hds htl hp hc2'
     have hc1256 := c1.toNat_lt
     go_wp2_with fail
     refine Hpu.out.mono ?_
     rintro e w1 ⟨rfl, hw1⟩
     have hb1 : Below wr.heap.size wr w1 := by
      rcases hw1 with rfl | rfl
      ·exact Below.refl _ _
      ·exact Lib.bytesWorld_below _ _ _
     clear hw1
     have k1 := (hb1.cell (p := (⟨b, o, sp⟩ : Addr).add a) (by rw [block_of_add]; exact hbl)).trans C2.out
     have Hb1 := Lib.hid hb1
     have eV : numV a (.inr (u, j)) = .tuple #[.int .u64 (u : Nat), .int .i64 ((i : Int) + 1), .nilIface] := by
      have := Hi.out
      have e2 : ((a + j + 1 : Nat) : Int) = (i : Int) + 1 := by omega
      rw [numV_inr, e2]
     have EV := Lib.hid eV
     clear hb1 eV
     by_cases h48 : c1.toNat = 48
     ·have e48 : ((c1.toNat : Int) == 48) = true := by simp; omega
      by_cases h1 : 1 < j
      ·have e1 : decide ((a : Int) + 1 < i) = true := decide_eq_true (by have := Hi.out; omega)
       go_wp2_with fail
       go_ret3
       rw [HR3.out, if_pos ⟨h48, h1⟩, numV_inl]
       exact ⟨rfl, Hb1.out⟩
      ·have e1 : decide ((a : Int) + 1 < i) = false := decide_eq_false (by have := Hi.out; omega)
       go_wp2_with fail
       go_ret3
       rw [HR3.out, if_neg (fun h => h1 h.2), EV.out]
       exact ⟨rfl, Hb1.out⟩
     ·have e48 : ((c1.toNat : Int) == 48) = false := by simp; omega
      go_wp2_with fail
      go_ret3
      rw [HR3.out, if_neg (fun h => h48 h.1), EV.out]
      exact ⟨rfl, Hb1.out⟩
    | range =>
     obtain ⟨te, pe, tr, pr, v1, v2, -, -⟩ := Hev.out
     have hpu := Tryz.strconv_ParseUint_10_at64_range ⟨ds.toArray⟩ (by omega) (by rw [hdl]; exact hp) (.iface tr pr) wr v2 (.inr ⟨tr, pr, rfl⟩)
     have hR3 : R = .inl 3 := by
      rw [hR2]
      unfold dnum
      rw [hp]
     have HR3 := Lib.hid hR3
     have Hpu := Lib.hid hpu
     clear hR2 hR3 hpu hdl hdz hds htl hp v1 v2
     go_wp2_with fail
     refine Hpu.out.mono ?_
     rintro e w1 ⟨N, rfl, -, -, hb1⟩
     have Hb1 := Lib.hid hb1
     clear hb1
     go_wp2_with fail
     go_ret3
     rw [HR3.out, numV_inl]
     exact ⟨rfl, Hb1.out⟩
    | _ =>
     obtain ⟨te, pe, tr, pr, v1, v2, -, -⟩ := Hev.out
     have hpu := Tryz.strconv_ParseUint_10_at64_syntax ⟨ds.toArray⟩ (by omega) (by rw [hdl]; exact hp.trans (if_pos rfl).symm) (.iface te pe) wr v1 (.inr ⟨te, pe, rfl⟩)
     have hR3 : R = .inl 3 := by
      rw [hR2]
      unfold dnum
      rw [hp]
     have HR3 := Lib.hid hR3
     have Hpu := Lib.hid hpu
     clear hR2 hR3 hpu hdl hdz hds htl hp v1 v2
     go_wp2_with fail
     refine Hpu.out.mono ?_
     rintro e w1 ⟨N, rfl, -, -, hb1⟩
     have Hb1 := Lib.hid hb1
     clear hb1
     go_wp2_with fail
     go_ret3
     rw [HR3.out, numV_inl]
     exact ⟨rfl, Hb1.out⟩
   ·rw [if_neg hs] at hR2
    have hq : ((ch.toNat : Int) != (sg.toNat : Int)) = true := by
     simp only [bne_iff_ne, ne_eq]
     intro h
     exact hs (UInt8.toNat_inj.1 (by omega))
    rw [htl] at hR2
    by_cases hd1 : ch.toNat < 48
    ·have hd : isDig ch = false := by unfold isDig; simp; omega
     rw [if_pos (.inl hd)] at hR2
     have e1 : decide ((ch.toNat : Int) < 48) = true := decide_eq_true (by omega)
     have HR3 := Lib.hid hR2
     clear hR2 hg hdrop htk hd hs
     go_wp2_with fail
     go_ret3
     rw [HR3.out, numV_inl]
     exact ⟨rfl, Below.refl _ _⟩
    have e1 : decide ((ch.toNat : Int) < 48) = false := decide_eq_false (by omega)
    by_cases hd2 : 57 < ch.toNat
    ·have hd : isDig ch = false := by unfold isDig; simp; omega
     rw [if_pos (.inl hd)] at hR2
     have e2 : decide (57 < (ch.toNat : Int)) = true := decide_eq_true (by omega)
     have HR3 := Lib.hid hR2
     clear hR2 hg hdrop htk hd hs
     go_wp2_with fail
     go_ret3
     rw [HR3.out, numV_inl]
     exact ⟨rfl, Below.refl _ _⟩
    have e2 : decide (57 < (ch.toNat : Int)) = false := decide_eq_false (by omega)
    by_cases hd3 : 20 ≤ j
    ·rw [if_pos (.inr hd3)] at hR2
     have e3 : decide ((20 : Int) ≤ (j : Int)) = true := decide_eq_true (by omega)
     have HR3 := Lib.hid hR2
     clear hR2 hg hdrop htk hs
     go_wp2_with fail
     go_ret3
     rw [HR3.out, numV_inl]
     exact ⟨rfl, Below.refl _ _⟩
    have e3 : decide (20 ≤ j) = false := decide_eq_false hd3
    have hd : isDig ch = true := by unfold isDig; simp; omega
    rw [if_neg (show ¬ (isDig ch = false ∨ 20 ≤ j) from fun h => h.elim (fun h => by rw [hd] at h; cases h) (fun h => hd3 h)), ← htk] at hR2
    have HR3 := Lib.hid hR2
    clear hR2 hg hdrop htk hs hd
    go_wp2_with fail
    go_roundg (n - (i + 1))
    case measure => have := Hm.out; omega
    case rel => exact ⟨j + 1, i + 1, rfl, by have := Hi.out; omega, by omega, by omega, by go_num, HR3.out, rfl⟩
  ·obtain rfl : i = n := by omega
   have hR2 := HR.out
   rw [List.drop_of_length_le (Nat.le_of_eq Hl.out), dscan] at hR2
   have HR3 := Lib.hid hR2
   clear hR2
   go_wp2_with fail
   go_ret3
   rw [HR3.out, numV_inl]
   exact ⟨rfl, Below.refl _ _⟩
theorem headE_cons (x c : UInt8) (r : List UInt8) : headE x (c :: r) = if c = x then 0 else 3 := rfl
theorem dnum_ne {ds : List UInt8} {e : Int} (h : dnum ds = .inl e) : e = 3 := by
 unfold dnum at h
 split at h
 ·split at h
  ·injection h with h; exact h.symm
  ·cases h
 ·injection h with h; exact h.symm
theorem dscan_ne {sg : UInt8} : ∀ {l acc : List UInt8} {e : Int}, dscan sg acc l = .inl e → e ≠ 0 := by
 intro l
 induction l with
 | nil => intro acc e h; injection h with h; omega
 | cons c r ih =>
  intro acc e h
  rw [dscan] at h
  split at h
  ·have := dnum_ne h; omega
  ·split at h
   ·injection h with h; omega
   ·exact ih h
def okV : Option (Nat × Nat) → Value
 | none => .tuple #[.int .u64 0, .int .i64 0, .bool false]
 | some (n, k) => .tuple #[.int .u64 (n : Nat), .int .i64 (k : Nat), .bool true]
theorem okV_none : okV none = .tuple #[.int .u64 0, .int .i64 0, .bool false] := rfl
theorem okV_some (n k : Nat) : okV (some (n, k)) = .tuple #[.int .u64 (n : Nat), .int .i64 (k : Nat), .bool true] := rfl
def numR (s : RdS) : Int ⊕ (Nat × Nat) → RdS × Option (Nat × Nat)
 | .inl e => ((s.1, e), none)
 | .inr (n, k) => (s, some (n, k + 2))
theorem numR_inl (s : RdS) (e : Int) : numR s (.inl e) = ((s.1, e), none) := rfl
theorem numR_inr (s : RdS) (n k : Nat) : numR s (.inr (n, k)) = (s, some (n, k + 2)) := rfl
theorem numS_eq {x sg : UInt8} {s : RdS} (h : s.2 = 0) : numS x sg s = numR s (pnum x sg s.1) := by
 unfold numS
 rw [if_neg (fun hh => hh h)]
 cases pnum x sg s.1 <;> rfl
theorem number_any (p : Nat) (s : RdS) (x sg : UInt8) (w : World) (h : Rr w p s) :
  Calls Tryz.prog 224 #[.pointer (some ⟨p, 0, none⟩), .string ⟨#[x]⟩, .int .u8 (sg.toNat : Int), .int .i64 1] w (RdPost w p (numS x sg s).1 (okV (numS x sg s).2)) := by
 have hb := begin_any p s x w h
 have hf := fun w1 (hb1 : Below w.heap.size w w1) => fails_any p s (headE x s.1) w1 (h.gb hb1)
 by_cases hs : s.2 = 0
 ·rw [hs] at hf
  simp only [if_true] at hf
  by_cases he : headE x s.1 = 0
  ·obtain ⟨r, hr⟩ : ∃ r, s.1 = x :: r := by
    cases hl : s.1 with
    | nil => rw [hl] at he; exact absurd (show (12 : Int) = 0 from he) (by decide)
    | cons c r =>
     rw [hl] at he
     by_cases hc : c = x
     ·exact ⟨r, by rw [hc]⟩
     ·rw [headE_cons, if_neg hc] at he
      omega
   obtain ⟨R, hR⟩ : ∃ R, dscan sg [] r = R := ⟨_, rfl⟩
   have hN : numS x sg s = numR s R := by
    rw [numS_eq hs, hr, pnum, if_pos rfl, hR]
   have hd : ∀ w1, Rr w1 p (s.1, 0) → ∀ A n c, Rd w1 (· < p) 1 A n (bs s.1) → n ≤ c → c ≤ maxLen → Calls Tryz.prog 243 #[.slice A n c, .int .i64 ((1 : Nat) : Int), .int .u8 (sg.toNat : Int)] w1 (fun e w' => e = .returned (numV 1 R) ∧ Below w1.heap.size w1 w') := fun w1 h1 A n c r1 h2 h3 => by
    have := digits_rd A n c s.1 1 sg w1 r1 h2 h3 (by have := r1.blen; rw [hr] at this; simp at this; omega) h1.ev
    rw [hr, List.drop_one, List.tail_cons, hR] at this
    exact this
   rw [he] at hb hf
   rw [errE0] at hb hf
   have hne : ∀ e, R = .inl e → e ≠ 0 := fun e h => dscan_ne (hR.trans h)
   have Hb := Lib.hid hb
   have Hf := Lib.hid hf
   have Hd := Lib.hid hd
   have HN := Lib.hid hN
   have Hne := Lib.hid hne
   have hs0 : s = (s.1, 0) := by rw [← hs]
   have HS := Lib.hid hs0
   clear hb hf hd hN hne hR hr h hs he hs0
   rw [HN.out]
   go_enter Tryz.func224, Tryz.ntmps224
   go_wp2_with fail
   refine Hb.out.mono ?_
   rintro e w1 ⟨rfl, hb1⟩
   go_wp2_with fail
   refine (Hf.out _ hb1).mono ?_
   rintro e w2 ⟨rfl, h2, g2⟩
   have G2 := gb_trans (below_gb (p := p) hb1) g2
   obtain ⟨A, n, c, c0, c1, f0, f1, r2, n1, n2⟩ := h2.cells
   have hdg := Hd.out _ h2 A n c r2 n1 n2
   have Hdg := Lib.hid hdg
   have H2 := Lib.hid (And.intro h2 G2)
   clear hb1 g2 h2 G2 r2 n1 n2 hdg c1 f0 f1
   go_wp2_with fail
   refine Hdg.out.mono ?_
   rintro e w3 ⟨rfl, hb3⟩
   have h3 := H2.out.1.gb hb3
   have G3 := gb_trans H2.out.2 (below_gb hb3)
   rcases R with e | ⟨u, k⟩
   ·have hf3 := fails_any p (s.1, 0) e w3 h3
    have hd3 : decide (e ≠ 0) = true := decide_eq_true (Hne.out e rfl)
    simp only [if_true] at hf3
    rw [hd3] at hf3
    have Hf3 := Lib.hid hf3
    have HG := Lib.hid G3
    clear hf3 h3 G3 hb3 hd3 c0
    rw [numV_inl, numR_inl]
    go_wp2_with fail
    refine Hf3.out.mono ?_
    rintro e' w4 ⟨rfl, h4, g4⟩
    have H4 := Lib.hid (And.intro h4 (gb_trans HG.out g4))
    clear h4 g4
    go_wp2_with fail
    go_ret3
    exact ⟨rfl, H4.out⟩
   ·have hf3 := fails_any p (s.1, 0) 0 w3 h3
    simp only [if_true] at hf3
    rw [errE0] at hf3
    have Hf3 := Lib.hid hf3
    have HG := Lib.hid G3
    clear hf3 h3 G3 hb3 c0
    rw [numV_inr, numR_inr]
    go_wp2_with fail
    refine Hf3.out.mono ?_
    rintro e' w4 ⟨rfl, h4, g4⟩
    have H4 := Lib.hid (And.intro h4 (gb_trans HG.out g4))
    clear h4 g4
    go_wp2_with fail
    go_ret3
    have h5 := H4.out.1
    rw [← HS.out] at h5
    refine ⟨?_, h5, H4.out.2⟩
    have e2 : ((1 + k + 1 : Nat) : Int) = ((k + 2 : Nat) : Int) := by omega
    rw [numR_inr, okV_some, ← e2]
    rfl
  ·have hN : numS x sg s = ((s.1, headE x s.1), none) := by
    rw [numS_eq hs]
    have hp : pnum x sg s.1 = .inl (headE x s.1) := by
     cases hl : s.1 with
     | nil => rfl
     | cons c r =>
      rw [hl] at he
      by_cases hc : c = x
      ·rw [headE_cons, if_pos hc] at he
       exact absurd rfl he
      ·rw [headE_cons, pnum, if_neg hc, if_neg hc]
    rw [hp, numR_inl]
   have hdt : decide (headE x s.1 ≠ 0) = true := decide_eq_true he
   rw [hdt] at hf
   rw [errE_ne he] at hb hf
   have Hb := Lib.hid hb
   have Hf := Lib.hid hf
   have HN := Lib.hid hN
   clear hb hf hN h hs he hdt
   rw [HN.out]
   go_enter Tryz.func224, Tryz.ntmps224
   go_wp2_with fail
   refine Hb.out.mono ?_
   rintro e w1 ⟨rfl, hb1⟩
   go_wp2_with fail
   refine (Hf.out _ hb1).mono ?_
   rintro e w2 ⟨rfl, h2, g2⟩
   have H2 := Lib.hid (And.intro h2 (gb_trans (below_gb (p := p) hb1) g2))
   clear h2 g2 hb1
   go_wp2_with fail
   go_ret3
   exact ⟨rfl, H2.out⟩
 ·have hN : numS x sg s = (s, none) := by
   unfold numS
   rw [if_pos hs]
  simp only [hs, if_false] at hf
  have hdt : decide (s.2 ≠ 0) = true := decide_eq_true hs
  rw [hdt] at hf
  have Hb := Lib.hid hb
  have Hf := Lib.hid hf
  have HN := Lib.hid hN
  clear hb hf hN h hs hdt
  rw [HN.out]
  have hek : errE (headE x s.1) = .nilIface ∨ ∃ k, errE (headE x s.1) = .iface 105 (.int .i64 k) := by
   by_cases h0 : headE x s.1 = 0
   ·exact .inl (if_pos h0)
   ·exact .inr ⟨_, if_neg h0⟩
  rcases hek with hek | ⟨k, hek⟩
  all_goals
   rw [hek] at Hb Hf
   clear hek
   go_enter Tryz.func224, Tryz.ntmps224
   go_wp2_with fail
   refine Hb.out.mono ?_
   rintro e w1 ⟨rfl, hb1⟩
   go_wp2_with fail
   refine (Hf.out _ hb1).mono ?_
   rintro e w2 ⟨rfl, h2, g2⟩
   have H2 := Lib.hid (And.intro h2 (gb_trans (below_gb (p := p) hb1) g2))
   clear h2 g2 hb1
   go_wp2_with fail
   go_ret3
   exact ⟨rfl, H2.out⟩
theorem numS_some {x sg : UInt8} {s s' : RdS} {n k : Nat} (h : numS x sg s = (s', some (n, k))) : s' = s ∧ s.2 = 0 ∧ k ≤ s.1.length ∧ n < 18446744073709551616 ∧ k ≤ 22 := by
 by_cases hs : s.2 = 0
 ·rw [numS_eq hs] at h
  cases hp : pnum x sg s.1 with
  | inl e => rw [hp, numR_inl] at h; cases h
  | inr q =>
   obtain ⟨u, j⟩ := q
   rw [hp, numR_inr] at h
   injection h with h1 h2
   injection h2 with h2
   injection h2 with h2 h3
   subst h1 h2 h3
   refine ⟨rfl, hs, ?_⟩
   cases hl : s.1 with
   | nil => rw [hl] at hp; cases hp
   | cons c r =>
    rw [hl, pnum] at hp
    split at hp
    ·have := dscan_len (by simp) hp
     simp only [List.length_nil, List.length_cons] at this ⊢
     omega
    ·cases hp
 ·unfold numS at h
  rw [if_pos hs] at h
  cases h
def boundR (most : Nat) (s' : RdS) : Option (Nat × Nat) → RdS × Option (Nat × Nat)
 | none => (s', none)
 | some (n, k) => if most < n then ((s'.1, 4), none) else (s', some (n, k))
theorem boundR_none (most : Nat) (s' : RdS) : boundR most s' none = (s', none) := rfl
theorem boundR_some (most n k : Nat) (s' : RdS) : boundR most s' (some (n, k)) = if most < n then ((s'.1, 4), none) else (s', some (n, k)) := rfl
theorem boundS_eq {most : Nat} {s s' : RdS} {o : Option (Nat × Nat)} (h : numS 110 59 s = (s', o)) : boundS most s = boundR most s' o := by
 unfold boundS
 rw [h]
 cases o <;> rfl
theorem boundS_some {most : Nat} {s s' : RdS} {n k : Nat} (h : boundS most s = (s', some (n, k))) : s' = s ∧ s.2 = 0 ∧ k ≤ s.1.length ∧ n ≤ most ∧ k ≤ 22 := by
 obtain ⟨⟨s1, o⟩, hn⟩ : ∃ q, numS 110 59 s = q := ⟨_, rfl⟩
 rw [boundS_eq hn] at h
 cases o with
 | none => rw [boundR_none] at h; cases h
 | some q =>
  obtain ⟨u, j⟩ := q
  have := numS_some hn
  rw [boundR_some] at h
  split at h
  ·cases h
  ·injection h with h1 h2
   injection h2 with h2
   injection h2 with h2 h3
   subst h1 h2 h3
   exact ⟨this.1, this.2.1, this.2.2.1, by omega, this.2.2.2.2⟩
theorem bounded_any (p : Nat) (s : RdS) (most : Nat) (w : World) (h : Rr w p s) :
  Calls Tryz.prog 210 #[.pointer (some ⟨p, 0, none⟩), .int .u64 (most : Nat)] w (RdPost w p (boundS most s).1 (okV (boundS most s).2)) := by
 have hn := number_any p s 110 59 w h
 obtain ⟨⟨s', o⟩, hq⟩ : ∃ q, numS 110 59 s = q := ⟨_, rfl⟩
 have hb := boundS_eq (most := most) hq
 rw [hq] at hn
 rcases o with _ | ⟨u, k⟩
 ·dsimp only at hn
  rw [boundR_none] at hb
  rw [okV_none] at hn
  have Hn := Lib.hid hn
  have Hb := Lib.hid hb
  clear hn hb hq h
  rw [Hb.out]
  go_enter Tryz.func210, Tryz.ntmps210
  go_wp2_with fail
  refine Hn.out.mono ?_
  rintro e w1 ⟨rfl, h1, g1⟩
  have H1 := Lib.hid (And.intro h1 g1)
  clear h1 g1
  go_wp2_with fail
  go_ret3
  exact ⟨rfl, H1.out⟩
 ·dsimp only at hn
  rw [boundR_some] at hb
  rw [okV_some] at hn
  obtain ⟨rfl, hs0, -, hu, hk⟩ := numS_some hq
  by_cases hm : most < u
  ·rw [if_pos hm] at hb
   have hmN : decide (most < u) = true := decide_eq_true hm
   have hf := fun w1 (h1 : Rr w1 p s') => fails_any p s' 4 w1 h1
   rw [hs0] at hf
   simp only [if_true] at hf
   have hd4 : decide ((4 : Int) ≠ 0) = true := rfl
   rw [hd4, errE_ne (by decide)] at hf
   have Hn := Lib.hid hn
   have Hb := Lib.hid hb
   have Hf := Lib.hid hf
   clear hn hb hq h hf hs0 hd4 hm
   rw [Hb.out]
   go_enter Tryz.func210, Tryz.ntmps210
   go_wp2_with fail
   refine Hn.out.mono ?_
   rintro e w1 ⟨rfl, h1, g1⟩
   have Hf1 := Lib.hid (Hf.out _ h1)
   have G1 := Lib.hid g1
   clear h1 g1
   go_wp2_with fail
   refine Hf1.out.mono ?_
   rintro e w2 ⟨rfl, h2, g2⟩
   have H2 := Lib.hid (And.intro h2 (gb_trans G1.out g2))
   clear h2 g2
   go_wp2_with fail
   go_ret3
   exact ⟨rfl, H2.out⟩
  ·rw [if_neg hm] at hb
   have hmI : decide ((most : Int) < (u : Int)) = false := decide_eq_false (by omega)
   have hmN : decide (most < u) = false := decide_eq_false hm
   have Hn := Lib.hid hn
   have Hb := Lib.hid hb
   clear hn hb hq h hs0 hm
   rw [Hb.out]
   go_enter Tryz.func210, Tryz.ntmps210
   go_wp2_with fail
   refine Hn.out.mono ?_
   rintro e w1 ⟨rfl, h1, g1⟩
   have H1 := Lib.hid (And.intro h1 g1)
   clear h1 g1
   go_wp2_with fail
   go_ret3
   exact ⟨rfl, H1.out⟩
theorem rest_any {W : World} {p : Nat} {s : RdS} (h : Rr W p s) {k : Nat} (hk : k ≤ s.1.length) : ∃ A n c A', W.cell? ⟨p, 0, none⟩ = some (.slice A n c) ∧ W.frozen? ⟨p, 0, none⟩ = false ∧ k ≤ n ∧ s.1.length = n ∧ n ≤ c ∧ c ≤ maxLen ∧
  (∀ W', (Instr.sliceAt 26 (.slice A n c) (some (.int .i64 (k : Int))) none none).run Tryz.prog W' = .ok (.slice A' (n - k) (c - k)) W') ∧ Rr (W.setCell ⟨p, 0, none⟩ (.slice A' (n - k) (c - k))) p (s.1.drop k, s.2) ∧ Rd W (· < p) 1 A n (bs s.1) := by
 obtain ⟨A, n, c, c0, c1, f0, f1, hr, h1, h2⟩ := h.cells
 have hl := hr.blen
 have hb := hr.bsub (i := k) (k := n - k) (m := c) (by omega) (by omega)
 rw [List.take_of_length_le (by rw [List.length_drop]; omega)] at hb
 refine ⟨A, n, c, if c = k then A else A.map (·.add k), c0, f0, by omega, hl, h1, h2, fun W' => ?_, h.to hb (by omega) (by omega), hr⟩
 have := run_slice_lo (P := Tryz.prog) 26 Tryz.underlying26 (size := 1) (by kernel_rfl) A n c W' k (by omega)
 rw [Nat.mul_one] at this
 exact this
theorem uint_rd (p : Nat) (s : RdS) (most : Nat) (w : World) (h : Rr w p s) :
  Calls Tryz.prog 174 #[.pointer (some ⟨p, 0, none⟩), .int .u64 (most : Nat)] w (RdPost w p (uintS most s).1 (.int .u64 ((uintS most s).2 : Nat))) := by
 have hn := bounded_any p s most w h
 obtain ⟨⟨s', o⟩, hq⟩ : ∃ q, boundS most s = q := ⟨_, rfl⟩
 rw [hq] at hn
 rcases o with _ | ⟨u, k⟩
 ·have hu : uintS most s = (s', 0) := by unfold uintS; rw [hq]
  dsimp only at hn
  rw [okV_none] at hn
  have Hn := Lib.hid hn
  have Hb := Lib.hid hu
  clear hn hu hq h
  rw [Hb.out]
  go_enter Tryz.func174, Tryz.ntmps174
  go_wp2_with fail
  refine Hn.out.mono ?_
  rintro e w1 ⟨rfl, h1, g1⟩
  have H1 := Lib.hid (And.intro h1 g1)
  clear h1 g1
  go_wp2_with fail
  go_ret
  exact ⟨rfl, H1.out⟩
 ·have hu : uintS most s = ((s'.1.drop k, s'.2), u) := by unfold uintS; rw [hq]
  dsimp only at hn
  rw [okV_some] at hn
  obtain ⟨rfl, -, hk, -, -⟩ := boundS_some hq
  have Hn := Lib.hid hn
  have Hb := Lib.hid hu
  have Hk := Lib.hid hk
  clear hn hu hq h hk
  rw [Hb.out]
  go_enter Tryz.func174, Tryz.ntmps174
  go_wp2_with fail
  refine Hn.out.mono ?_
  rintro e w1 ⟨rfl, h1, g1⟩
  obtain ⟨A, n, c, A', c0, f0, hkn, hln, hnc, hcm, hsl, hrr, -⟩ := rest_any h1 Hk.out
  have hg := gb_trans g1 (gb_set w1 p 0 (.slice A' (n - k) (c - k)))
  have H1 := Lib.hid (And.intro hrr hg)
  have hkI : (k : Int) ≤ n := by omega
  clear h1 g1 hrr hg hln hnc hcm
  go_wp2_with fail
  go_ret
  exact ⟨rfl, H1.out⟩
set_option maxHeartbeats 800000 in
theorem count_rd (p : Nat) (s : RdS) (most : Nat) (w : World) (h : Rr w p s) (hm : most ≤ 1000000) :
  Calls Tryz.prog 173 #[.pointer (some ⟨p, 0, none⟩), .int .i64 (most : Nat)] w (RdPost w p (countS most s).1 (.int .i64 ((countS most s).2 : Nat))) := by
 have hn := bounded_any p s most w h
 obtain ⟨⟨s', o⟩, hq⟩ : ∃ q, boundS most s = q := ⟨_, rfl⟩
 rw [hq] at hn
 have hmx : max (most : Int) 0 = (most : Int) := by omega
 have hmw : IntKind.u64.wrap (most : Int) = (most : Int) := by rw [IntKind.wrap_u64]; omega
 have hm0 : (0 : Int) ≤ most := by omega
 rcases o with _ | ⟨u, k⟩
 ·have hu : countS most s = (s', 0) := by unfold countS; rw [hq]
  dsimp only at hn
  rw [okV_none] at hn
  have Hn := Lib.hid hn
  have Hb := Lib.hid hu
  clear hn hu hq h
  rw [Hb.out]
  go_enter Tryz.func173, Tryz.ntmps173
  go_wp2_with fail
  refine Hn.out.mono ?_
  rintro e w1 ⟨rfl, h1, g1⟩
  have H1 := Lib.hid (And.intro h1 g1)
  clear h1 g1
  go_wp2_with fail
  go_ret
  exact ⟨rfl, H1.out⟩
 ·obtain ⟨rfl, hs0, hk, hum, -⟩ := boundS_some hq
  have hu : countS most s' = if s'.1.length - k < u then ((s'.1, 2), 0) else ((s'.1.drop k, s'.2), u) := by unfold countS; rw [hq]
  dsimp only at hn
  rw [okV_some] at hn
  have hf := fun w1 (h1 : Rr w1 p s') => fails_any p s' 2 w1 h1
  rw [hs0] at hf
  simp only [if_true] at hf
  have hd4 : decide ((2 : Int) ≠ 0) = true := rfl
  rw [hd4, errE_ne (by decide)] at hf
  have Hn := Lib.hid hn
  have Hb := Lib.hid hu
  have Hk := Lib.hid hk
  have Hf := Lib.hid hf
  have huw : IntKind.i64.wrap (u : Int) = (u : Int) := by rw [IntKind.wrap_i64]; omega
  clear hn hu hq h hk hf hs0 hd4
  go_enter Tryz.func173, Tryz.ntmps173
  go_wp2_with fail
  refine Hn.out.mono ?_
  rintro e w1 ⟨rfl, h1, g1⟩
  obtain ⟨A, n, c, A', c0, f0, hkn, hln, hnc, hcm, hsl, hrr, -⟩ := rest_any h1 Hk.out
  obtain ⟨d, hd⟩ : ∃ d, n - k = d := ⟨_, rfl⟩
  have hmc : maxLen = 9223372036854775807 := by decide
  have w1' : IntKind.i64.wrap ((n : Int) - (k : Int)) = (d : Int) := by rw [IntKind.wrap_i64]; omega
  have w2' : IntKind.u64.wrap (d : Int) = (d : Int) := by rw [IntKind.wrap_u64]; omega
  have hkI : (k : Int) ≤ n := by omega
  by_cases hlt : d < u
  ·have hdN : decide (d < u) = true := decide_eq_true hlt
   have Hf1 := Lib.hid (Hf.out _ h1)
   have G1 := Lib.hid g1
   have Hlt := Lib.hid (show s'.1.length - k < u by omega)
   clear h1 g1 hrr hd hln hnc hcm hmc hlt hsl
   go_wp2_with fail
   refine Hf1.out.mono ?_
   rintro e w2 ⟨rfl, h2, g2⟩
   have H2 := Lib.hid (And.intro h2 (gb_trans G1.out g2))
   clear h2 g2
   go_wp2_with fail
   go_ret
   rw [Hb.out, if_pos Hlt.out]
   exact ⟨rfl, H2.out⟩
  ·have hdN : decide (d < u) = false := decide_eq_false hlt
   have hg := gb_trans g1 (gb_set w1 p 0 (.slice A' (n - k) (c - k)))
   have H1 := Lib.hid (And.intro hrr hg)
   have Hlt := Lib.hid (show ¬ s'.1.length - k < u by omega)
   clear h1 g1 hrr hg hln hnc hcm hmc hlt hd
   go_wp2_with fail
   go_ret
   rw [Hb.out, if_neg Hlt.out]
   exact ⟨rfl, H1.out⟩
def TakePost (W : World) (p : Nat) (s : RdS) (b : List UInt8) (e : Ending) (w' : World) : Prop := ∃ A n c, e = .returned (.slice A n c) ∧ w'.ownsRow W.heap.size 5 1 (.slice A n c) n (bs b) ∧ Rr w' p s ∧ W.grownBy w' (some p)
theorem TakePost.none_ {W w' : World} {p : Nat} {s : RdS} (h : Rr w' p s) (hg : W.grownBy w' (some p)) : TakePost W p s [] (.returned (.slice none 0 0)) w' := ⟨none, 0, 0, rfl, World.ownsRow_nil _ _ _ _, h, hg⟩
set_option maxHeartbeats 1600000 in
theorem run_rd (p : Nat) (s : RdS) (most : Nat) (w : World) (h : Rr w p s) (hm : most ≤ 2000000) :
  Calls Tryz.prog 216 #[.pointer (some ⟨p, 0, none⟩), .string ⟨#[98]⟩, .int .i64 (most : Nat)] w (TakePost w p (bytesS most s).1 (bytesS most s).2) := by
 have hn := number_any p s 98 58 w h
 obtain ⟨⟨s', o⟩, hq⟩ : ∃ q, numS 98 58 s = q := ⟨_, rfl⟩
 rw [hq] at hn
 have hmw : IntKind.u64.wrap (most : Int) = (most : Int) := by rw [IntKind.wrap_u64]; omega
 have hm0 : decide ((most : Int) < 0) = false := decide_eq_false (by omega)
 obtain ⟨EV, hEV⟩ : ∃ EV, errE s.2 = EV := ⟨_, rfl⟩
 have hev : EV = .nilIface ∨ ∃ k, EV = .iface 105 (.int .i64 k) := by
  rw [← hEV]
  by_cases h0 : s.2 = 0
  ·exact .inl (if_pos h0)
  ·exact .inr ⟨_, if_neg h0⟩
 obtain ⟨A0, n0, c0', c0, c1, f0, f1, -⟩ := h.cells
 rw [hEV] at c1
 rcases o with _ | ⟨u, k⟩
 ·have hu : bytesS most s = (s', []) := by unfold bytesS; rw [hq]
  dsimp only at hn
  rw [okV_none] at hn
  rw [hu]
  have Hn := Lib.hid hn
  clear hn hu hq h hEV
  rcases hev with rfl | ⟨k', rfl⟩
  all_goals
   go_enter Tryz.func216, Tryz.ntmps216
   go_wp2_with fail
   refine Hn.out.mono ?_
   rintro e w1 ⟨rfl, h1, g1⟩
   have H1 := Lib.hid (And.intro h1 g1)
   clear h1 g1
   go_wp2_with fail
   go_ret
   exact TakePost.none_ H1.out.1 H1.out.2
 ·obtain ⟨rfl, hs0, hk, -, hk22⟩ := numS_some hq
  have hE0 : EV = .nilIface := by rw [← hEV, hs0]; rfl
  subst hE0
  clear hev
  have hu : bytesS most s' = if most < u then ((s'.1, 2), []) else if s'.1.length - k < u then ((s'.1, 12), []) else ((s'.1.drop (k + u), s'.2), (s'.1.drop k).take u) := by unfold bytesS; rw [hq]
  dsimp only at hn
  rw [okV_some] at hn
  have hf := fun (e : Int) (he : e ≠ 0) w1 (h1 : Rr w1 p s') => (by
   have := fails_any p s' e w1 h1
   rw [hs0] at this
   simp only [if_true] at this
   rw [show decide (e ≠ 0) = true from decide_eq_true he, errE_ne he] at this
   exact this : Calls Tryz.prog 211 #[.pointer (some ⟨p, 0, none⟩), .iface 105 (.int .i64 e)] w1 (RdPost w1 p (s'.1, e) (.bool true)))
  have Hn := Lib.hid hn
  have Hb := Lib.hid hu
  have Hk := Lib.hid hk
  have Hf2 := Lib.hid (hf 2 (by decide))
  have Hf12 := Lib.hid (hf 12 (by decide))
  clear hn hu hq h hk hf hs0 hEV
  by_cases hbig : most < u
  ·have hdN : decide (most < u) = true := decide_eq_true hbig
   have Hbig := Lib.hid hbig
   clear hbig
   go_enter Tryz.func216, Tryz.ntmps216
   go_wp2_with fail
   refine Hn.out.mono ?_
   rintro e w1 ⟨rfl, h1, g1⟩
   have Hf1 := Lib.hid (Hf2.out _ h1)
   have G1 := Lib.hid g1
   clear h1 g1
   go_wp2_with fail
   refine Hf1.out.mono ?_
   rintro e w2 ⟨rfl, h2, g2⟩
   have H2 := Lib.hid (And.intro h2 (gb_trans G1.out g2))
   clear h2 g2
   go_wp2_with fail
   go_ret
   rw [Hb.out, if_pos Hbig.out]
   exact TakePost.none_ H2.out.1 H2.out.2
  have hdN : decide (most < u) = false := decide_eq_false hbig
  have Hbig := Lib.hid hbig
  have hum : u ≤ 2000000 := by omega
  clear hbig
  have huw : IntKind.i64.wrap (u : Int) = (u : Int) := by rw [IntKind.wrap_i64]; omega
  go_enter Tryz.func216, Tryz.ntmps216
  go_wp2_with fail
  refine Hn.out.mono ?_
  rintro e w1 ⟨rfl, h1, g1⟩
  clear c0 c1 f0 f1
  obtain ⟨A, n, c, A', c0, f0, hkn, hln, hnc, hcm, -, -, hr1⟩ := rest_any h1 Hk.out
  obtain ⟨d, hd⟩ : ∃ d, n - k = d := ⟨_, rfl⟩
  have hmc : maxLen = 9223372036854775807 := by decide
  have w1' : IntKind.i64.wrap ((n : Int) - (k : Int)) = (d : Int) := by rw [IntKind.wrap_i64]; omega
  have w2' : IntKind.u64.wrap (d : Int) = (d : Int) := by rw [IntKind.wrap_u64]; omega
  by_cases hlt : d < u
  ·have hdN2 : decide (d < u) = true := decide_eq_true hlt
   have Hf1 := Lib.hid (Hf12.out _ h1)
   have G1 := Lib.hid g1
   have Hlt := Lib.hid (show s'.1.length - k < u by omega)
   clear h1 g1 hd hln hnc hcm hmc hlt hr1
   go_wp2_with fail
   refine Hf1.out.mono ?_
   rintro e w2 ⟨rfl, h2, g2⟩
   have H2 := Lib.hid (And.intro h2 (gb_trans G1.out g2))
   clear h2 g2
   go_wp2_with fail
   go_ret
   rw [Hb.out, if_neg Hbig.out, if_pos Hlt.out]
   exact TakePost.none_ H2.out.1 H2.out.2
  have hdN2 : decide (d < u) = false := decide_eq_false hlt
  have Hlt := Lib.hid (show ¬ s'.1.length - k < u by omega)
  obtain ⟨z, hz⟩ : ∃ z, z = k + u := ⟨_, rfl⟩
  have hzw : IntKind.i64.wrap ((k : Int) + (u : Int)) = (z : Int) := by rw [IntKind.wrap_i64]; omega
  have hsl : ∀ W, (Instr.sliceAt 26 (.slice A n c) (some (.int .i64 (k : Int))) (some (.int .i64 (z : Int))) none).run Tryz.prog W = .ok (.slice (if c = k then A else A.map (·.add (k * 1))) (z - k) (c - k)) W := fun W => run_slice_lohi (P := Tryz.prog) 26 Tryz.underlying26 (size := 1) (by kernel_rfl) A n c W k z (by omega) (by omega)
  have hrs := hr1.bsub (i := k) (k := u) (m := c) (by omega) (by omega)
  rw [show z - k = u by omega, Nat.mul_one] at hsl
  generalize (if c = k then A else A.map (·.add k)) = A5 at hsl hrs
  have hcl := clone_any A5 u (c - k) (bs ((s'.1.drop k).take u)) w1 hrs (bs_one _) (by omega)
  have Hcl := Lib.hid hcl
  have H1 := Lib.hid (And.intro h1 g1)
  have Hz := Lib.hid (And.intro hz (show z ≤ s'.1.length by omega))
  have hkz : (k : Int) ≤ z := by omega
  have hzc : (z : Int) ≤ c := by omega
  clear hcl h1 g1 hrs hd hln hnc hcm hmc hlt hr1 hz
  go_wp2_with fail
  refine Hcl.out.mono ?_
  rintro e w2 ⟨A2, c2, rfl, ho2, hb2⟩
  have h2 := H1.out.1.gb hb2
  clear c0 f0
  obtain ⟨A3, n3, c3, A4, c0, f0, hkn3, hln3, hnc3, hcm3, hsl3, hrr3, -⟩ := rest_any h2 Hz.out.2
  have hpl := H1.out.1.lt
  have hg3 := gb_trans (gb_trans H1.out.2 (below_gb hb2)) (gb_set w2 p 0 (.slice A4 (n3 - z) (c3 - z)))
  have ho3 : (w2.setCell ⟨p, 0, none⟩ (.slice A4 (n3 - z) (c3 - z))).ownsRow w.heap.size 5 1 (.slice A2 u c2) u (bs ((s'.1.drop k).take u)) := by
   have hsz := H1.out.2.size
   refine World.ownsRow.kept ?_ (gb_set w2 p 0 _) ?_
   ·refine ⟨ho2.1, ?_⟩
    rcases ho2.2 with hn | ⟨g, cap, cur, hv, hB, rest⟩
    ·exact .inl hn
    ·exact .inr ⟨g, cap, cur, hv, by omega, rest⟩
   ·rcases A2 with _ | a
    ·exact .inl rfl
    ·right
     intro e
     have := (own_lt ho2 a.block rfl).1
     have e' : some a.block = some p := e
     injection e' with e'
     omega
  have H3 := Lib.hid (And.intro ho3 (And.intro hrr3 hg3))
  have hkz3 : (z : Int) ≤ n3 := by omega
  clear h2 hb2 ho2 hrr3 hg3 ho3 hln3 hnc3 hcm3 hpl
  go_wp2_with fail
  go_ret
  rw [Hb.out, if_neg Hbig.out, if_neg Hlt.out, ← Hz.out.1]
  exact ⟨A2, u, c2, rfl, H3.out⟩
theorem bytes_rd (p : Nat) (s : RdS) (most : Nat) (w : World) (h : Rr w p s) (hm : most ≤ 2000000) :
  Calls Tryz.prog 182 #[.pointer (some ⟨p, 0, none⟩), .int .i64 (most : Nat)] w (TakePost w p (bytesS most s).1 (bytesS most s).2) := by
 have hr := run_rd p s most w h hm
 have Hr := Lib.hid hr
 clear hr h
 go_enter Tryz.func182, Tryz.ntmps182
 go_wp2_with fail
 refine Hr.out.mono ?_
 rintro e w1 ⟨A, n, c, rfl, h1⟩
 go_wp2_with fail
 go_ret
 exact ⟨A, n, c, rfl, h1⟩
end Go.Proofs.YtmhaahcbmdhinaaGreatDoor
namespace Go.Proofs.YtmhaahcbmdhinaaGreatDoor
set_option linter.unusedVariables false
set_option linter.unusedSimpArgs false
end Go.Proofs.YtmhaahcbmdhinaaGreatDoor
