/- A number's decimal digits: strconv.FormatUint at base 10, strconv.Itoa; from the kit's contracts on the inner parts.
   A pack.Writer of the call's own: its object, and what each of its acts lays behind.
   The document's own numerals and what it lays behind bytes.
   Walks: members as bytes, of both.
   Plain law of reading packed things: no program in sight.
   Contracts of the library's sort and compaction at this dump: laid by the kit's own commands in plain words. -/
import Derived.Test.YtmhaahcbmdhinaaGreatDoorZM1
import Derived.Test.YtmhaahcbmdhinaaGreatDoorZM0
import Derived.Lib.SmallJoins
import Derived.Lib.AppendStr
import Derived.Deep.LoopGhost
import Derived.Deep.DeepCutAuto
import Derived.Lib.ParseIntBCases
import Derived.Shelf.Small.Bits
import Derived.Shelf.Strconv.Itoa0
import Derived.Shelf.Strconv.Itoa1
import Derived.Shelf.LaysM
import Derived.Shelf.Strconv.Itoa2
import Derived.Shelf.Strconv.Itoa3
import Derived.Ground.MpProg
import Derived.Shelf.Pu.ParseUintPublic10
import Derived.Shelf.Pu.ErrVarParseUint
import Derived.Shelf.Sort.Plain
import Derived.Shelf.Slices.In.SortNone
import Derived.Ground.SlgfProg
import Derived.Shelf.SlicesE.IndexFunc
import Derived.Test.YtmhaahcbmdhinaaGreatDoorProg
namespace Go.Proofs.YtmhaahcbmdhinaaGreatDoor
open Go.RowKit Go.Sort Go.Lib
set_option maxRecDepth 100000
set_option linter.unusedVariables false
set_option linter.unusedSimpArgs false
def TabW (w : World) : Prop := Lib.TabIs Tryz.prog w "internal/strconv.uint64pow10" .u64 Lib.pow10Tab
theorem tabG : Tryz.prog.globalNamed "internal/strconv.uint64pow10" = some 1 := by kernel_rfl
theorem TabW.below {w w' : World} {B : Nat} (h : TabW w) (hb : Below B w w') (hB : w.heap.size ≤ B) : TabW w' := by
 exact Go.Joins.tab_stays tabG h hb hB
def dig (u : Nat) : ByteArray := ⟨(Lib.decDigits u).toArray⟩
def StrPost (W : World) (s : ByteArray) (e : Ending) (w' : World) : Prop := e = .returned (.string s) ∧ Below W.heap.size W w'
theorem below_grow (w : World) (k : Nat) (os : Array Obj) : Below w.heap.size w (grow (w.drewN k) os) :=
 ⟨rfl, rfl, rfl, by simp [grow], fun i hi => by
  show (w.heap ++ os)[i]? = _
  rw [Array.getElem?_append_left hi]⟩
theorem holds0 (w : World) (T : TypeId) (nd : Nat) (hs : nd ≤ 24) : Holds (fun (b : UInt8) => Value.int .u8 (b.toNat : Int)) (w.alloc (.cells zeros24 T)) w.heap.size 0 (Array.replicate nd (0 : UInt8)) := fun j hj => by
 have hj' : j < nd := by simpa using hj
 refine ⟨?_, World.frozen?_alloc_new _ _ _ _⟩
 rw [World.cell?_alloc_new, zeros24_at _ (by omega), getElem!_pos _ j hj]
 simp
theorem fin0 (w : World) (o : Obj) (dk : Array UInt8) (k : Nat) : ∃ os, (putRow (fun (b : UInt8) => Value.int .u8 (b.toNat : Int)) (w.alloc o) w.heap.size 0 dk).drewN k = grow (w.drewN k) os := by
 rw [alloc_eq_grow]
 obtain ⟨os', _, e⟩ := putRow_grow_new (fun (b : UInt8) => Value.int .u8 (b.toNat : Int)) w #[o] w.heap.size 0 dk (Nat.le_refl _)
 exact ⟨os', by rw [e]; rfl⟩
set_option maxHeartbeats 1600000 in
theorem fmt_inner (u : Nat) (hu64 : u < 18446744073709551616) (w : World) (htab : TabW w) :
  Calls Tryz.prog 220 #[.int .u64 u, .int .i64 10] w (StrPost w (dig u)) := by
 by_cases hs : u < 100
 ·have hw : IntKind.i64.wrap (u : Int) = (u : Int) := by rw [IntKind.wrap_i64]; omega
  have H : ∀ W, Calls Tryz.prog 238 #[.int .i64 (u : Int)] W fun e w' => e = .returned (.string (dig u)) ∧ w' = W := fun W => Tryz.internal_strconv_small u hs W
  have HH := Lib.hid H
  clear H
  go_enter Tryz.func220, Tryz.ntmps220
  go_wp2_with fail
  refine (HH.out _).mono ?_
  rintro e w' ⟨rfl, rfl⟩
  go_wp2_with fail
  go_ret
  exact ⟨rfl, Below.refl _ _⟩
 ·have hu1 : 1 ≤ u := by omega
  have hu100 : 100 ≤ u := by omega
  have hnd20 : Lib.nDigits u ≤ 20 := by have := Lib.numDigits_eq u hu1 hu64; split at this <;> omega
  have hb3 : Lib.nDigits u ≤ 23 := by omega
  have hal : Tryz.prog.arrayLen 330 = 24 := by kernel_rfl
  have hel : Tryz.prog.underlying 330 = some (.array 24 5) := Tryz.underlying330
  have hsl1 : ∀ W, (Instr.sliceAt 330 (.pointer (some ⟨w.heap.size, 0, none⟩)) none (some (.int .i64 (Lib.nDigits u : Int))) none).run Tryz.prog W = .ok (.slice (some ⟨w.heap.size, 0, none⟩) (Lib.nDigits u) 24) W := fun W => by
   rw [run_sliceAt_array_h W 330 ⟨w.heap.size, 0, none⟩ (by simp [Program.arrayLen, Program.elem, hel]) .i64 (Lib.nDigits u : Int) (by omega) (by rw [hal]; omega)]
   go_simp
  have hH0 := holds0 w 330 (Lib.nDigits u) (by omega)
  have hfmt := Tryz.internal_strconv_formatBase10 w.heap.size 0 24 u (Array.replicate (Lib.nDigits u) 0) (w.alloc (.cells Lib.zeros24 330)) hH0 (by rw [Array.size_replicate]; exact Lib.lt_pow_nDigits u) hu64 (by rw [Array.size_replicate]; omega)
  rw [Array.size_replicate] at hfmt
  have hnd := Tryz.internal_strconv_numDigits u hu1 hu64 (w.alloc (.cells Lib.zeros24 330)) (Lib.tabIs_alloc htab _)
  have HH0 := Lib.hid hH0
  have Hfmt := Lib.hid hfmt
  have Hnd := Lib.hid hnd
  clear hH0 hal hfmt hnd hel
  go_enter Tryz.func220, Tryz.ntmps220
  go_wp2_with fail
  refine Hnd.out.mono ?_
  rintro e w' ⟨rfl, rfl⟩
  go_wp2_with fail
  refine Hfmt.out.mono ?_
  rintro e w' ⟨rfl, k, v', dk, rfl, hF⟩
  have hcv : (convert 26 9 (.slice (some ⟨w.heap.size, 0, none⟩) (Lib.nDigits u) 24)).run Tryz.prog ((putRow (fun (b : UInt8) => Value.int .u8 (b.toNat : Int)) (w.alloc (.cells Lib.zeros24 330)) w.heap.size 0 dk).drewN k) = .ok (.string (dig u)) ((putRow (fun (b : UInt8) => Value.int .u8 (b.toNat : Int)) (w.alloc (.cells Lib.zeros24 330)) w.heap.size 0 dk).drewN k) := by
   have h := run_convert_bytes_back (P := Tryz.prog) ((putRow (fun (b : UInt8) => Value.int .u8 (b.toNat : Int)) (w.alloc (.cells Lib.zeros24 330)) w.heap.size 0 dk).drewN k) 26 9 5 ⟨w.heap.size, 0, none⟩ 24 (Lib.decDigits u) Tryz.underlying26 Tryz.underlying5 Tryz.underlying9 (fun j hj => by
    rw [Lib.row_is_numeral hF j hj, Lib.add_plain, World.cell?_drewN]
    exact cell?_putRow (fun (b : UInt8) => Value.int .u8 (b.toNat : Int)) _ w.heap.size 0 _ dk HH0.out (by rw [hF.size, Array.size_replicate]) j (by rw [hF.size]; rw [Lib.decDigits_length] at hj; exact hj))
   rw [Lib.decDigits_length] at h
   exact h
  go_wp2_with fail
  go_ret
  obtain ⟨os, eo⟩ := fin0 w (.cells Lib.zeros24 330) dk k
  refine ⟨rfl, ?_⟩
  rw [eo]
  exact below_grow w k os
set_option maxHeartbeats 800000 in
theorem fmt_any (u : Nat) (hu64 : u < 18446744073709551616) (w : World) (htab : TabW w) :
  Calls Tryz.prog 189 #[.int .u64 u, .int .i64 10] w (StrPost w (dig u)) := by
 have h := fmt_inner u hu64 w htab
 have H := Lib.hid h
 clear h
 go_enter Tryz.func189, Tryz.ntmps189
 go_wp2_with fail
 refine H.out.mono ?_
 rintro e w' ⟨rfl, hb⟩
 go_wp2_with fail
 go_ret
 exact ⟨rfl, hb⟩
theorem itoa_any (n : Nat) (hn : n ≤ 9223372036854775807) (w : World) (htab : TabW w) :
  Calls Tryz.prog 217 #[.int .i64 n] w (StrPost w (dig n)) := by
 refine (Tryz.strconv_Itoa (n : Int) (by omega) (by omega) w htab).mono ?_
 rintro e w' ⟨rfl, k, os, rfl⟩
 refine ⟨?_, below_grow w k os⟩
 rw [Lib.itoa_nonneg]
 rfl
end Go.Proofs.YtmhaahcbmdhinaaGreatDoor
namespace Go.Proofs.YtmhaahcbmdhinaaGreatDoor
open Go.RowKit
set_option maxRecDepth 100000
set_option linter.unusedVariables false
set_option linter.unusedSimpArgs false
structure Wr (W : World) (B p : Nat) (l : List UInt8) : Prop where
 ex : ∃ A n c, W.heap[p]? = some (.cells #[.slice A n c] 275 (0, 0)) ∧ B ≤ p ∧ W.ownsRow B 5 1 (.slice A n c) n (bs l)
theorem own_ne {W : World} {B p e t size n c : Nat} {A : Option Addr} {xs : List Value} {cs : Array Value} (h : W.ownsRow B e size (.slice A n c) n xs) (hp : W.heap[p]? = some (.cells cs t (0, 0))) (hne : t ≠ e) : A.map (·.block) ≠ some p := by
 rcases h.2 with ⟨h1, _⟩ | ⟨g, cap, cur, h1, _, h3, _⟩
 ·injection h1 with h1; subst h1; simp
 ·injection h1 with h1
  subst h1
  intro e2
  injection e2 with e2
  dsimp only at e2
  subst e2
  rw [hp] at h3
  injection h3 with h3
  injection h3 with _ h3
  exact hne h3
theorem Wr.below {W W' : World} {B p : Nat} {l : List UInt8} (h : Wr W B p l) (hb : Below W.heap.size W W') : Wr W' B p l := by
 obtain ⟨A, n, c, h1, h2, h3⟩ := h.ex
 exact ⟨A, n, c, (hb.block p (Array.getElem?_eq_some_iff.1 h1).1).trans h1, h2, own_below h3 hb⟩
theorem wpList_append_str {P : Program} (w : World) {ops : Array Oper} {rest : List Oper} {o : Oper} {a : Act} {Q : Exit → Act → World → Prop} {sl x : Operand} {t u e : TypeId}
  (ht : P.underlying t = some (.slice e)) (hu : P.underlying u = some .string) (he : Elem P e (.int .u8 0) 1 1)
  (hgd : o.guard = none) (ho : o.op = .call { callee := .builtin .append, args := #[sl, x], argTypes := #[t, u] })
  {base : Nat} {A0 : Option Addr} {n c0 : Nat} {l : List UInt8} (hs : a.eval sl = .slice A0 n c0) (hown : w.ownsRow base e 1 (.slice A0 n c0) n (bs l)) {s : ByteArray} (hx : a.eval x = .string s)
  (hbytes : n + s.size ≤ 35184372088832) (hbase : base ≤ w.heap.size) {k : Nat} {m : List UInt8} (hk : n + s.size = k) (hm : l ++ s.data.toList = m)
  (h : ∀ A' c' w', w'.ownsRow base e 1 (.slice A' k c') k (bs m) → w.grownBy w' (A0.map (·.block)) → wpList P ops Q rest (a.put o.dst (.slice A' k c')) w') : wpList P ops Q (o :: rest) a w := by
 obtain ⟨i, hi, hz, hsize, hby⟩ := info_parts he
 refine Lib.wpList_append_own_string w hgd sl x t u ho base e i ht hu hi hz hsize hby _ n (bs l) hs hown s hx (by unfold maxLen; omega) (by omega) hbase ?_
 intro v' w' h1 h2 _
 obtain ⟨A', c', rfl, _⟩ := own_form h1
 subst hk hm
 have e1 : (Value.slice A0 n c0).ownBlock = A0.map (·.block) := by cases A0 <;> rfl
 rw [e1] at h2
 refine h A' c' w' ?_ h2
 have e2 : bs (l ++ s.data.toList) = bs l ++ Lib.strCells s := by rw [bs_append]; rfl
 rw [e2]
 exact h1
theorem keepP {w w1 : World} {p : Nat} {o o' : Obj} {row : Option Nat} (h : w.heap[p]? = some o) (hg : (w.alloc o').grownBy w1 row) (hne : row ≠ some p) : w1.heap[p]? = some o := by
 have hl := (Array.getElem?_eq_some_iff.1 h).1
 exact (hg.block p (by simp; omega) (fun e => hne e.symm)).trans ((Below.heap_alloc w o' p hl).trans h)
theorem keepQ {w w1 : World} {p : Nat} {o : Obj} {row : Option Nat} (h : w.heap[p]? = some o) (hg : w.grownBy w1 row) (hne : row ≠ some p) : w1.heap[p]? = some o := by
 have hl := (Array.getElem?_eq_some_iff.1 h).1
 exact (hg.block p hl (fun e => hne e.symm)).trans h
theorem box_cell {w : World} {p : Nat} {v : Value} {t : TypeId} (h : w.heap[p]? = some (.cells #[v] t (0, 0))) : w.cell? ⟨p, 0, none⟩ = some v ∧ w.frozen? ⟨p, 0, none⟩ = false :=
 ⟨cell_of_row w p 0 _ _ (0, 0) h, by simp [World.frozen?, h]⟩
def WrPost (w : World) (B p : Nat) (l : List UInt8) (e : Ending) (w' : World) : Prop := e = .returned (.pointer (some ⟨p, 0, none⟩)) ∧ Wr w' B p l ∧ Below B w w'
theorem Wr.store {W W' : World} {B p k c n c' : Nat} {A A' : Option Addr} {l : List UInt8} (h1 : W.heap[p]? = some (.cells #[.slice A n c] 275 (0, 0))) (h2 : B ≤ p) (ho : W'.ownsRow B 5 1 (.slice A' k c') k (bs l)) (hg : W'.heap[p]? = W.heap[p]?) :
  Wr (W'.setCell ⟨p, 0, none⟩ (.slice A' k c')) B p l := by
 have hp := hg.trans h1
 have hne := own_ne ho hp (by decide)
 refine ⟨A', k, c', by simp [World.setCell, Array.getElem?_modify, hp], h2, ?_⟩
 refine ho.kept (row := some p) ⟨rfl, rfl, rfl, by simp [World.setCell], fun i _ hi => Below.heap_setCell _ _ _ i (fun e => hi (by rw [e]))⟩ ?_
 cases A' with
 | none => exact .inl rfl
 | some a => exact .inr hne
set_option maxHeartbeats 1600000 in
theorem lay_any (B p : Nat) (l : List UInt8) (c d : UInt8) (s : ByteArray) (w : World) (h : Wr w B p l) (hn : l.length + s.size ≤ 1099511627776) :
  Calls Tryz.prog 188 #[.pointer (some ⟨p, 0, none⟩), .int .u8 (c.toNat : Int), .string s, .int .u8 (d.toNat : Int)] w (WrPost w B p (l ++ [c] ++ s.data.toList ++ [d])) := by
 obtain ⟨A, n, cp, h1, h2, h3⟩ := h.ex
 have hpl := (Array.getElem?_eq_some_iff.1 h1).1
 have hln : l.length = n := by have := h3.1; rw [bs_length] at this; omega
 have hne := own_ne h3 h1 (by decide)
 have hbl := own_lt h3
 have c0 : w.cell? ⟨p, 0, none⟩ = some (.slice A n cp) := cell_of_row w p 0 _ _ (0, 0) h1
 have f0 : w.frozen? ⟨p, 0, none⟩ = false := by simp [World.frozen?, h1]
 have H1 := Lib.hid h1
 have H3 := Lib.hid h3
 have Hne := Lib.hid hne
 have Hbl := Lib.hid hbl
 have Hln := Lib.hid hln
 have hn' : n + s.size ≤ 1099511627776 := by omega
 clear h h1 h3 hne hbl hn hln
 go_enter Tryz.func188, Tryz.ntmps188
 go_wp2_with (first
  | (at_builtin; refine wpList_append_any (s := .tmp 15) (news := bs [c]) _ Tryz.underlying26 u8_elem rfl (by omega) rfl rfl rfl (own_below H3.out ((Below.refl _ _).alloc (Nat.le_refl _) _)) rfl (show Rd (w.alloc (.cells #[.int .u8 (c.toNat : Int)] 5)) T 1 (some ⟨w.heap.size, 0, none⟩) 1 (bs [c]) from (Rd.lit rfl).any) (bs_one _) (by omega) (by simp; omega) rfl (bs_append l [c]).symm ?_; intro A1 c1 w1 hown1 hg1 hat1; have K1 := Lib.hid (keepP H1.out hg1 Hne.out); clear hat1)
  | (at_builtin; refine wpList_append_str (sl := .tmp 18) _ Tryz.underlying26 Tryz.underlying9 u8_elem rfl rfl rfl hown1 rfl (by omega) (by have := hg1.size; simp at this; omega) rfl rfl ?_; intro A2 c2 w2 hown2 hg2; have K2 := Lib.hid (keepQ K1.out hg2 (own_ne hown1 K1.out (by decide))))
  | (at_builtin; refine wpList_append_any (s := .tmp 20) (news := bs [d]) _ Tryz.underlying26 u8_elem rfl (by omega) rfl rfl rfl (own_below hown2 ((Below.refl _ _).alloc (Nat.le_refl _) _)) rfl (show Rd (w2.alloc (.cells #[.int .u8 (d.toNat : Int)] 5)) T 1 (some ⟨w2.heap.size, 0, none⟩) 1 (bs [d]) from (Rd.lit rfl).any) (bs_one _) (by omega) (by have := hg1.size; have := hg2.size; simp at *; omega) rfl (bs_append _ [d]).symm ?_; intro A3 c3 w3 hown3 hg3 hat3; have K3 := Lib.hid (keepP K2.out hg3 (own_ne hown2 K2.out (by decide))); obtain ⟨q0, q1⟩ := box_cell K3.out; clear hat3))
 go_ret
 refine ⟨rfl, Wr.store H1.out h2 hown3 (K3.out.trans H1.out.symm), ?_⟩
 have b1 := ((Below.refl B w).alloc (by omega) (.cells #[.int .u8 (c.toNat : Int)] 5)).grown hg1 (by simp; omega) (fun q hq => (Hbl.out q hq).1)
 have b2 := b1.grown hg2 (Nat.le_trans (by omega) b1.size) (fun q hq => (own_lt hown1 q hq).1)
 have b3 := (b2.alloc (by have := b2.size; omega) (.cells #[.int .u8 (d.toNat : Int)] 5)).grown hg3 (by have := b2.size; simp; omega) (fun q hq => (own_lt hown2 q hq).1)
 exact b3.setCell h2 _
theorem new_any (w : World) : Calls Tryz.prog 137 #[] w (fun e w' => e = .returned (.pointer (some ⟨w.heap.size, 0, none⟩)) ∧ Wr w' w.heap.size w.heap.size [] ∧ Below w.heap.size w w') := by
 go_enter Tryz.func137, Tryz.ntmps137
 go_wp2_with fail
 go_ret
 exact ⟨rfl, ⟨none, 0, 0, heap_alloc_new _ _, Nat.le_refl _, own_nil _ _ _ _ _ rfl⟩, (Below.refl _ _).alloc (Nat.le_refl _) _⟩
def uintL (u : Nat) : List UInt8 := 110 :: (Lib.decDigits u ++ [59])
def bytesL (d : List UInt8) : List UInt8 := 98 :: (Lib.decDigits d.length ++ 58 :: d)
theorem dig_size (u : Nat) (hu : u < 18446744073709551616) : (dig u).size ≤ 20 := by
 have e1 : (dig u).size = Lib.nDigits u := by rw [← Lib.decDigits_length]; rfl
 rw [e1]
 by_cases h0 : u = 0
 ·subst h0; rw [Lib.nDigits_small (by omega)]; omega
 ·have := Lib.numDigits_eq u (by omega) hu; split at this <;> omega
set_option maxHeartbeats 800000 in
theorem uint_any (B p : Nat) (l : List UInt8) (u : Nat) (hu : u < 18446744073709551616) (w : World) (h : Wr w B p l) (hn : l.length ≤ 549755813888) (htab : TabW w) (hB : B ≤ w.heap.size) :
  Calls Tryz.prog 138 #[.pointer (some ⟨p, 0, none⟩), .int .u64 u] w (WrPost w B p (l ++ uintL u)) := by
 have hf := fmt_any u hu w htab
 have hd := dig_size u hu
 have hl : ∀ w1, Below w.heap.size w w1 → Calls Tryz.prog 188 #[.pointer (some ⟨p, 0, none⟩), .int .u8 110, .string (dig u), .int .u8 59] w1 (WrPost w1 B p (l ++ uintL u)) := fun w1 hb => by
  have := lay_any B p l 110 59 (dig u) w1 (h.below hb) (by omega)
  have e : l ++ [110] ++ (dig u).data.toList ++ [59] = l ++ uintL u := by simp [uintL, dig]
  rw [e] at this
  exact this
 have Hf := Lib.hid hf
 have Hl := Lib.hid hl
 clear hf hl h htab
 go_enter Tryz.func138, Tryz.ntmps138
 go_wp2_with fail
 refine Hf.out.mono ?_
 rintro e w1 ⟨rfl, hb⟩
 go_wp2_with fail
 refine (Hl.out _ hb).mono ?_
 rintro e w2 ⟨rfl, h2, hb2⟩
 go_wp2_with fail
 go_ret
 exact ⟨rfl, h2, (hb.mono hB).trans hb2⟩
set_option maxHeartbeats 800000 in
theorem done_any (B p : Nat) (l : List UInt8) (w : World) (h : Wr w B p l) (hn : l.length ≤ 17592186044416) :
  Calls Tryz.prog 139 #[.pointer (some ⟨p, 0, none⟩)] w (fun e w' => ∃ A c, e = .returned (.slice A l.length c) ∧ w'.ownsRow w.heap.size 5 1 (.slice A l.length c) l.length (bs l) ∧ Below w.heap.size w w') := by
 obtain ⟨A, n, c, k1, k2, k3⟩ := h.ex
 obtain ⟨q0, q1⟩ := box_cell k1
 obtain rfl : l.length = n := by have := k3.1; rw [bs_length] at this; omega
 have hc := fun W (hb : Below w.heap.size w W) => clone_any A l.length c (bs l) W ((Rd.of_own k3).below hb) (bs_one _) (by omega)
 have Hc := Lib.hid hc
 clear h k1 k3 hc
 go_enter Tryz.func139, Tryz.ntmps139
 go_wp2_with fail
 refine (Hc.out _ (Below.refl _ _)).mono ?_
 rintro e w1 ⟨A', c', rfl, h1, hb⟩
 go_wp2_with fail
 go_ret
 exact ⟨A', c', rfl, h1, hb⟩
def d10 : ByteArray := { data := #[48, 49, 50, 51, 52, 53, 54, 55, 56, 57] }
def LayR (W : World) (l : List UInt8) (e : Ending) (w' : World) : Prop := ∃ A n c, e = .returned (.slice A n c) ∧ w'.ownsRow W.heap.size 5 1 (.slice A n c) n (bs l) ∧ Below W.heap.size W w'
theorem LayR.up {w w1 w' : World} {l : List UInt8} {e : Ending} (hb : Below w.heap.size w w1) (h : ∃ A n c, e = .returned (.slice A n c) ∧ w'.ownsRow w1.heap.size 5 1 (.slice A n c) n (bs l) ∧ Below w1.heap.size w1 w') : LayR w l e w' := by
 obtain ⟨A, n, c, h1, h2, h3⟩ := h
 refine ⟨A, n, c, h1, ⟨h2.1, ?_⟩, hb.trans (h3.mono hb.size)⟩
 rcases h2.2 with hn | ⟨g, cap, cur, hv, hB, rest⟩
 ·exact .inl hn
 ·exact .inr ⟨g, cap, cur, hv, Nat.le_trans hb.size hB, rest⟩
def uN (z : Int) : Nat := (IntKind.u64.wrap z).toNat
theorem uN_eq (z : Int) : IntKind.u64.wrap z = (uN z : Int) := by unfold uN; rw [IntKind.wrap_u64]; omega
theorem uN_lt (z : Int) : uN z < 18446744073709551616 := by unfold uN; rw [IntKind.wrap_u64]; omega
def confF (l : List Int) : List UInt8 := (l.map fun z => uintL (uN z)).flatten
def confL (l : List Int) : List UInt8 := uintL l.length ++ confF l
theorem uintL_le (u : Nat) (hu : u < 18446744073709551616) : (uintL u).length ≤ 22 := by
 have h := dig_size u hu
 have : (Lib.decDigits u).length ≤ 20 := h
 simp [uintL]
 omega
theorem confF_le : ∀ (l : List Int), (confF l).length ≤ 22 * l.length
 | [] => by simp [confF]
 | z :: l => by
  have := confF_le l
  have h2 := uintL_le (uN z) (uN_lt z)
  simp only [confF, List.map_cons, List.flatten_cons, List.length_append, List.length_cons] at this ⊢
  omega
theorem confF_snoc (l : List Int) (z : Int) : confF (l ++ [z]) = confF l ++ uintL (uN z) := by simp [confF]
set_option maxHeartbeats 1600000 in
theorem cenc_any (A : Option Addr) (n c : Nat) (l : List Int) (w : World) {ok : Nat → Prop} (hr : Rd w ok 1 A n (ii l)) (hn : n ≤ 1000000) (htab : TabW w) :
  Calls Tryz.prog 75 #[.slice A n c] w (LayR w (confL l)) := by
 have hl := ii_len hr
 have hwn : IntKind.u64.wrap (n : Int) = (n : Int) := by rw [IntKind.wrap_u64]; omega
 have r0 := (hr.lt (by omega)).mono fun b hb => hb.2
 have huint : ∀ W L (u : Nat), Below w.heap.size w W → Wr W w.heap.size w.heap.size L → u < 18446744073709551616 → L.length ≤ 100000000 → Calls Tryz.prog 138 #[.pointer (some ⟨w.heap.size, 0, none⟩), .int .u64 (u : Int)] W (fun e w' => e = .returned (.pointer (some ⟨w.heap.size, 0, none⟩)) ∧ Wr w' w.heap.size w.heap.size (L ++ uintL u) ∧ Below w.heap.size w w') := fun W L u hb h hu hL => (uint_any _ _ _ u hu W h (by omega) (htab.below hb (Nat.le_refl _)) hb.size).mono (by
  rintro e w' ⟨rfl, h, h2⟩
  exact ⟨rfl, h, hb.trans h2⟩)
 have Huint := Lib.hid huint
 have Hl := Lib.hid hl
 have Htab := Lib.hid htab
 clear huint htab hl
 go_enter Tryz.func75, Tryz.ntmps75
 go_wp2_with fail
 refine (new_any w).mono ?_
 rintro e w1 ⟨rfl, g1, hb1⟩
 go_wp2_with fail
 refine (Huint.out w1 [] n hb1 g1 (by omega) (by simp)).mono ?_
 rintro e w2 ⟨rfl, g2, hb2⟩
 have g2' : Wr w2 w.heap.size w.heap.size (uintL l.length ++ confF (l.take 0)) := by
  rw [List.nil_append] at g2
  simpa [confF, Hl.out] using g2
 clear g1 hb1 g2
 have hlen0 := uintL_le l.length (by rw [Hl.out]; omega)
 have Hlen0 := Lib.hid hlen0
 clear hlen0
 go_wp2_with fail
 go_loopg [5, 13] n (fun m s5 s13 wr => ∃ j : Nat, m = n - j ∧ j ≤ n ∧ s13 = .int .i64 j ∧ Wr wr w.heap.size w.heap.size (uintL l.length ++ confF (l.take j)) ∧ Below w.heap.size w wr)
 case atStart => exact ⟨0, by omega, by omega, rfl, g2', hb2⟩
 case round =>
  obtain ⟨j, hm, hj, rfl, hW, hb⟩ := hrel
  have Hm := Lib.hid hm
  have HWr := Lib.hid hW
  clear hm hW
  by_cases hlt : j < n
  ·obtain ⟨b, o, x, rfl, hob, _, hx, hc⟩ := ii_cell (r0.below (hb.mono (Nat.le_refl _))) hlt
   have Hx := Lib.hid hx
   clear hx
   have hltI : (j : Int) < n := by omega
   have hux := uN_eq x
   have hbd : (uintL l.length ++ confF (l.take j)).length ≤ 100000000 := by
    have h1 := confF_le (l.take j)
    have h2 := Hlen0.out
    rw [List.length_take] at h1
    rw [List.length_append]
    omega
   have Hbd := Lib.hid hbd
   clear hbd
   go_wp2_with fail
   refine (Huint.out _ _ (uN x) hb HWr.out (uN_lt x) Hbd.out).mono ?_
   rintro e w3 ⟨rfl, g3, hb3⟩
   have g3' : Wr w3 w.heap.size w.heap.size (uintL l.length ++ confF (l.take (j + 1))) := by
    rw [List.take_add_one, Hx.out, Option.toList_some, confF_snoc, ← List.append_assoc]
    exact g3
   clear g3
   go_wp2_with fail
   go_roundg (n - (j + 1))
   case measure => have := Hm.out; omega
   case rel => exact ⟨j + 1, rfl, by omega, by go_num, g3', hb3⟩
  ·obtain rfl : j = n := by omega
   have hW2 : Wr wr w.heap.size w.heap.size (confL l) := by
    have := HWr.out
    rwa [List.take_of_length_le (Nat.le_of_eq Hl.out)] at this
   have hbd : (confL l).length ≤ 17592186044416 := by
    have h1 := confF_le l
    have h2 := Hlen0.out
    have h3 := Hl.out
    unfold confL
    rw [List.length_append]
    omega
   have hd := done_any _ _ _ wr hW2 hbd
   have Hd := Lib.hid hd
   clear hd hbd hW2
   go_wp2_with fail
   refine Hd.out.mono ?_
   rintro e w3 ⟨A3, c3, rfl, o3, hb3⟩
   go_wp2_with fail
   go_ret
   refine ⟨_, _, _, rfl, ?_, hb.trans (hb3.mono hb.size)⟩
   refine ⟨o3.1, ?_⟩
   rcases o3.2 with h1 | ⟨g, cap, cur, h1, h2, h4⟩
   ·exact .inl h1
   ·exact .inr ⟨g, cap, cur, h1, Nat.le_trans hb.size h2, h4⟩
theorem own_dn {W : World} {B B' : Nat} {e : TypeId} {size n m c : Nat} {A : Option Addr} {xs : List Value} (ho : W.ownsRow B e size (.slice A n c) m xs) (hB : B' ≤ B) : W.ownsRow B' e size (.slice A n c) m xs := by
 refine ⟨ho.1, ?_⟩
 rcases ho.2 with h1 | ⟨g, cap, cur, h1, h2, h4⟩
 ·exact .inl h1
 ·exact .inr ⟨g, cap, cur, h1, Nat.le_trans hB h2, h4⟩
end Go.Proofs.YtmhaahcbmdhinaaGreatDoor
namespace Go.Proofs.YtmhaahcbmdhinaaGreatDoor
set_option linter.unusedVariables false
set_option linter.unusedSimpArgs false
def isDig (c : UInt8) : Bool := decide (48 ≤ c.toNat) && decide (c.toNat ≤ 57)
def dnum (ds : List UInt8) : Int ⊕ (Nat × Nat) :=
 match Lib.parseUintB 64 ds with
 | .ok u => if ds.head? = some 48 ∧ 1 < ds.length then .inl 3 else .inr (u, ds.length)
 | _ => .inl 3
def dscan (sign : UInt8) (acc : List UInt8) : List UInt8 → Int ⊕ (Nat × Nat)
 | [] => .inl 12
 | c :: r => if c = sign then dnum acc else if isDig c = false ∨ 20 ≤ acc.length then .inl 3 else dscan sign (acc ++ [c]) r
def pnum (letter sign : UInt8) : List UInt8 → Int ⊕ (Nat × Nat)
 | [] => .inl 12
 | c :: r => if c = letter then dscan sign [] r else .inl 3
abbrev RdS := List UInt8 × Int
def numS (letter sign : UInt8) (s : RdS) : RdS × Option (Nat × Nat) :=
 if s.2 ≠ 0 then (s, none) else match pnum letter sign s.1 with
  | .inl e => ((s.1, e), none)
  | .inr (n, k) => (s, some (n, k + 2))
def boundS (most : Nat) (s : RdS) : RdS × Option (Nat × Nat) :=
 match numS 110 59 s with
 | (s', none) => (s', none)
 | (s', some (n, k)) => if most < n then ((s'.1, 4), none) else (s', some (n, k))
def uintS (most : Nat) (s : RdS) : RdS × Nat :=
 match boundS most s with
 | (s', none) => (s', 0)
 | (s', some (n, k)) => ((s'.1.drop k, s'.2), n)
def countS (most : Nat) (s : RdS) : RdS × Nat :=
 match boundS most s with
 | (s', none) => (s', 0)
 | (s', some (n, k)) => if s'.1.length - k < n then ((s'.1, 2), 0) else ((s'.1.drop k, s'.2), n)
def bytesS (most : Nat) (s : RdS) : RdS × List UInt8 :=
 match numS 98 58 s with
 | (s', none) => (s', [])
 | (s', some (n, k)) => if most < n then ((s'.1, 2), []) else if s'.1.length - k < n then ((s'.1, 12), []) else ((s'.1.drop (k + n), s'.2), (s'.1.drop k).take n)
def doneS (s : RdS) : Int := if s.2 = 0 ∧ s.1 ≠ [] then 3 else s.2
theorem dscan_len {sign : UInt8} : ∀ {l acc : List UInt8} {n k : Nat}, acc.length ≤ 20 → dscan sign acc l = .inr (n, k) → acc.length ≤ k ∧ k + 1 ≤ acc.length + l.length ∧ n < 18446744073709551616 ∧ k ≤ 20 := by
 intro l
 induction l with
 | nil => intro acc n k _ h; cases h
 | cons c r ih =>
  intro acc n k ha h
  rw [dscan] at h
  split at h
  ·unfold dnum at h
   split at h
   ·rename_i u hu
    split at h
    ·cases h
    ·injection h with h
     injection h with h1 h2
     subst h1 h2
     have := Lib.parseUintB_le hu
     exact ⟨Nat.le_refl _, by simp, by omega, ha⟩
   ·cases h
  ·split at h
   ·cases h
   ·rename_i h1
    have h2 : acc.length < 20 := by
     refine Nat.lt_of_not_le fun hh => h1 (.inr hh)
    have := ih (by simp; omega) h
    simp only [List.length_append, List.length_cons, List.length_nil] at this ⊢
    omega
end Go.Proofs.YtmhaahcbmdhinaaGreatDoor
namespace Go.Proofs
open Go.Shelf
def Tryz.laysPu14_ren : Go.Shelf.Ren := ⟨fun | 14 => 255 | 16 => 260 | 17 => 261 | 19 => 262 | 20 => 263 | 21 => 264 | 22 => 265 | 23 => 266 | 24 => 267 | 25 => 268 | 27 => 217 | 26 => 269 | 28 => 236 | 29 => 249 | 30 => 238 | 31 => 239 | 32 => 240 | 33 => 241 | 35 => 234 | 34 => 250 | 36 => 251 | 37 => 252 | 38 => 253 | 39 => 257 | 40 => 258 | n => n, fun | 9 => 9 | 3 => 3 | 22 => 214 | 24 => 33 | 25 => 348 | 4 => 4 | 34 => 356 | 5 => 5 | 36 => 82 | 37 => 26 | 0 => 0 | 39 => 359 | 21 => 21 | 44 => 364 | 47 => 365 | 50 => 368 | 48 => 366 | 2 => 2 | 52 => 330 | 55 => 332 | 59 => 345 | 60 => 327 | 20 => 20 | 61 => 346 | 65 => 354 | 66 => 355 | 67 => 369 | n => n, fun | 0 => 4 | 1 => 5 | 2 => 1 | 3 => 2 | 4 => 3 | n => n⟩
theorem Tryz.laysPu14 : Go.Proofs.LaysPu.n14 Tryz.prog Tryz.laysPu14_ren := {
 mixed := by kernel_rfl
 f14 := Tryz.func255.trans (congrArg some (by kernel_rfl))
 f16 := Tryz.func260.trans (congrArg some (by kernel_rfl))
 f17 := Tryz.func261.trans (congrArg some (by kernel_rfl))
 f19 := Tryz.func262.trans (congrArg some (by kernel_rfl))
 f20 := Tryz.func263.trans (congrArg some (by kernel_rfl))
 f21 := Tryz.func264.trans (congrArg some (by kernel_rfl))
 f22 := Tryz.func265.trans (congrArg some (by kernel_rfl))
 f23 := Tryz.func266.trans (congrArg some (by kernel_rfl))
 f24 := Tryz.func267.trans (congrArg some (by kernel_rfl))
 f25 := Tryz.func268.trans (congrArg some (by kernel_rfl))
 f26 := Tryz.func269.trans (congrArg some (by kernel_rfl))
 f27 := Tryz.func217.trans (congrArg some (by kernel_rfl))
 f28 := Tryz.func236.trans (congrArg some (by kernel_rfl))
 f29 := Tryz.func249.trans (congrArg some (by kernel_rfl))
 f30 := Tryz.func238.trans (congrArg some (by kernel_rfl))
 f31 := Tryz.func239.trans (congrArg some (by kernel_rfl))
 f32 := Tryz.func240.trans (congrArg some (by kernel_rfl))
 f33 := Tryz.func241.trans (congrArg some (by kernel_rfl))
 f34 := Tryz.func250.trans (congrArg some (by kernel_rfl))
 f35 := Tryz.func234.trans (congrArg some (by kernel_rfl))
 f36 := Tryz.func251.trans (congrArg some (by kernel_rfl))
 f37 := Tryz.func252.trans (congrArg some (by kernel_rfl))
 f38 := Tryz.func253.trans (congrArg some (by kernel_rfl))
 f39 := Tryz.func257.trans (congrArg some (by kernel_rfl))
 f40 := Tryz.func258.trans (congrArg some (by kernel_rfl))
 t0 := Tryz.underlying0
 a0 := Tryz.isAgg0
 z0 := Tryz.sizeOf0
 v0 := Tryz.zeroValue0
 i0 := by kernel_rfl
 t2 := Tryz.underlying2
 a2 := Tryz.isAgg2
 z2 := Tryz.sizeOf2
 v2 := Tryz.zeroValue2
 i2 := by kernel_rfl
 t3 := Tryz.underlying3
 a3 := Tryz.isAgg3
 z3 := Tryz.sizeOf3
 v3 := Tryz.zeroValue3
 i3 := by kernel_rfl
 t4 := Tryz.underlying4
 a4 := Tryz.isAgg4
 z4 := Tryz.sizeOf4
 v4 := Tryz.zeroValue4
 i4 := by kernel_rfl
 t5 := Tryz.underlying5
 a5 := Tryz.isAgg5
 z5 := Tryz.sizeOf5
 v5 := Tryz.zeroValue5
 i5 := by kernel_rfl
 t9 := Tryz.underlying9
 a9 := Tryz.isAgg9
 z9 := Tryz.sizeOf9
 v9 := Tryz.zeroValue9
 i9 := by kernel_rfl
 t20 := Tryz.underlying20
 a20 := Tryz.isAgg20
 z20 := Tryz.sizeOf20
 v20 := Tryz.zeroValue20
 i20 := by kernel_rfl
 t21 := Tryz.underlying21
 a21 := Tryz.isAgg21
 z21 := Tryz.sizeOf21
 v21 := Tryz.zeroValue21
 i21 := by kernel_rfl
 t22 := Tryz.underlying214
 a22 := Tryz.isAgg214
 z22 := Tryz.sizeOf214
 v22 := Tryz.zeroValue214
 i22 := by kernel_rfl
 t24 := Tryz.underlying33
 a24 := Tryz.isAgg33
 z24 := Tryz.sizeOf33
 v24 := Tryz.zeroValue33
 i24 := by kernel_rfl
 t25 := Tryz.underlying348
 a25 := Tryz.isAgg348
 z25 := Tryz.sizeOf348
 v25 := Tryz.zeroValue348
 i25 := by kernel_rfl
 t34 := Tryz.underlying356
 a34 := Tryz.isAgg356
 z34 := Tryz.sizeOf356
 v34 := Tryz.zeroValue356
 i34 := by kernel_rfl
 c34 := by kernel_rfl
 t36 := Tryz.underlying82
 a36 := Tryz.isAgg82
 z36 := Tryz.sizeOf82
 v36 := Tryz.zeroValue82
 i36 := by kernel_rfl
 t37 := Tryz.underlying26
 a37 := Tryz.isAgg26
 z37 := Tryz.sizeOf26
 v37 := Tryz.zeroValue26
 i37 := by kernel_rfl
 t39 := Tryz.underlying359
 a39 := Tryz.isAgg359
 z39 := Tryz.sizeOf359
 v39 := Tryz.zeroValue359
 i39 := by kernel_rfl
 t44 := Tryz.underlying364
 a44 := Tryz.isAgg364
 z44 := Tryz.sizeOf364
 v44 := Tryz.zeroValue364
 i44 := by kernel_rfl
 t47 := Tryz.underlying365
 a47 := Tryz.isAgg365
 z47 := Tryz.sizeOf365
 v47 := Tryz.zeroValue365
 i47 := by kernel_rfl
 t48 := Tryz.underlying366
 a48 := Tryz.isAgg366
 z48 := Tryz.sizeOf366
 v48 := Tryz.zeroValue366
 i48 := by kernel_rfl
 t50 := Tryz.underlying368
 a50 := Tryz.isAgg368
 z50 := Tryz.sizeOf368
 v50 := Tryz.zeroValue368
 i50 := by kernel_rfl
 t52 := Tryz.underlying330
 a52 := Tryz.isAgg330
 z52 := Tryz.sizeOf330
 v52 := Tryz.zeroValue330
 i52 := by kernel_rfl
 t55 := Tryz.underlying332
 a55 := Tryz.isAgg332
 z55 := Tryz.sizeOf332
 v55 := Tryz.zeroValue332
 i55 := by kernel_rfl
 t59 := Tryz.underlying345
 a59 := Tryz.isAgg345
 z59 := Tryz.sizeOf345
 v59 := Tryz.zeroValue345
 i59 := by kernel_rfl
 t60 := Tryz.underlying327
 a60 := Tryz.isAgg327
 z60 := Tryz.sizeOf327
 v60 := Tryz.zeroValue327
 i60 := by kernel_rfl
 t61 := Tryz.underlying346
 a61 := Tryz.isAgg346
 z61 := Tryz.sizeOf346
 t65 := Tryz.underlying354
 a65 := Tryz.isAgg354
 z65 := Tryz.sizeOf354
 v65 := Tryz.zeroValue354
 i65 := by kernel_rfl
 t66 := Tryz.underlying355
 a66 := Tryz.isAgg355
 z66 := Tryz.sizeOf355
 v66 := Tryz.zeroValue355
 i66 := by kernel_rfl
 t67 := Tryz.underlying369
 a67 := Tryz.isAgg369
 z67 := Tryz.sizeOf369
 v67 := Tryz.zeroValue369
 i67 := by kernel_rfl
 g0 := by kernel_rfl
 m0 := by kernel_rfl
 g1 := by kernel_rfl
 m1 := by kernel_rfl
 g2 := by kernel_rfl
 m2 := by kernel_rfl
 g3 := by kernel_rfl
 m3 := by kernel_rfl
 g4 := by kernel_rfl
 m4 := by kernel_rfl }
open Go.RowKit in
/-- strconv.ParseUint(s, 10, 64), AT EVERY STRING THAT SPELLS A uint64 ('Lib.parseUintB 64 s.data.toList = .ok u'): u, AND NO ERROR. (LAID: no walk: one application.) -/
theorem Tryz.strconv_ParseUint_10_at64_ok (s : ByteArray) (hmax : s.size ≤ 9223372036854775806) (u : Nat) (h : Lib.parseUintB 64 s.data.toList = .ok u) (w : World) :
  Calls Tryz.prog 255 #[.string s, .int .i64 10, .int .i64 64] w fun e w' => e = .returned (.tuple #[.int .u64 u, .nilIface]) ∧ (w' = w ∨ w' = Lib.bytesWorld w 5 s) := Any.strconv_ParseUint_10_at64_ok Tryz.laysPu14 s hmax u h w
open Go.RowKit in
/-- strconv.ParseUint(s, 10, 64), AT EVERY STRING THAT IS NO ROW OF DECIMAL DIGITS (a sign is a fault): 0, AND AN ERROR THAT IS NOT nil: a *NumError in a new block N: {Func: "ParseUint", Num: s's bytes, Err: what the variable ErrSyntax holds}. Of what was there nothing has turned. (LAID: no walk: one application.) -/
theorem Tryz.strconv_ParseUint_10_at64_syntax (s : ByteArray) (hlim : s.size ≤ 281474976710656) (h : Lib.parseUintB 64 s.data.toList = Lib.parseUintB 64 []) (ev : Value) (w : World) (hv : w.cell? ⟨4, 0, none⟩ = some ev) (hev : ev = .nilIface ∨ ∃ te pe, ev = .iface te pe) :
  Calls Tryz.prog 255 #[.string s, .int .i64 10, .int .i64 64] w fun e w' => ∃ N, e = .returned (.tuple #[.int .u64 0, .iface 359 (.pointer (some ⟨N, 0, none⟩))]) ∧ w.heap.size ≤ N ∧ w'.heap[N]? = some (.cells #[.string ⟨#[80, 97, 114, 115, 101, 85, 105, 110, 116]⟩, .string s, ev] 364 (0, 0)) ∧ Below w.heap.size w w' := Any.strconv_ParseUint_10_at64_syntax Tryz.laysPu14 s hlim (h.trans (if_pos rfl)) ev w hv hev
open Go.RowKit in
/-- strconv.ParseUint(s, 10, 64), AT EVERY NUMERAL THAT NO uint64 HOLDS: THE GREATEST uint64, AND AN ERROR THAT IS NOT nil: a *NumError in a new block N: {Func: "ParseUint", Num: s's bytes, Err: what the variable ErrRange holds}. Of what was there nothing has turned. (LAID: no walk: one application.) -/
theorem Tryz.strconv_ParseUint_10_at64_range (s : ByteArray) (hlim : s.size ≤ 281474976710656) (h : Lib.parseUintB 64 s.data.toList = .range) (ev : Value) (w : World) (hv : w.cell? ⟨5, 0, none⟩ = some ev) (hev : ev = .nilIface ∨ ∃ te pe, ev = .iface te pe) :
  Calls Tryz.prog 255 #[.string s, .int .i64 10, .int .i64 64] w fun e w' => ∃ N, e = .returned (.tuple #[.int .u64 18446744073709551615, .iface 359 (.pointer (some ⟨N, 0, none⟩))]) ∧ w.heap.size ≤ N ∧ w'.heap[N]? = some (.cells #[.string ⟨#[80, 97, 114, 115, 101, 85, 105, 110, 116]⟩, .string s, ev] 364 (0, 0)) ∧ Below w.heap.size w w' := Any.strconv_ParseUint_10_at64_range Tryz.laysPu14 s hlim h ev w hv hev
end Go.Proofs
