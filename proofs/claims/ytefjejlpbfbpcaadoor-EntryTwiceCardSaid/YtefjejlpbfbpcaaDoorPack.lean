/- A pack.Writer of the call's own: its object, and what each of its acts lays behind. -/
import Derived.Test.YtefjejlpbfbpcaaDoorFmt
import Derived.Test.YtefjejlpbfbpcaaDoorClone
import Derived.Test.YtefjejlpbfbpcaaDoorBox
import Derived.Lib.AppendStr
namespace Go.Proofs.YtefjejlpbfbpcaaDoor
open Go.RowKit
set_option maxRecDepth 100000
set_option linter.unusedVariables false
set_option linter.unusedSimpArgs false
/-- Block p is a writer that has laid the bytes l. -/
structure Wr (W : World) (B p : Nat) (l : List UInt8) : Prop where
  ex : ∃ A n c, W.heap[p]? = some (.cells #[.slice A n c] 90 (0, 0)) ∧ B ≤ p ∧ W.ownsRow B 5 1 (.slice A n c) n (bs l)
theorem own_ne {W : World} {B p e t size n c : Nat} {A : Option Addr} {xs : List Value} {cs : Array Value} (h : W.ownsRow B e size (.slice A n c) n xs) (hp : W.heap[p]? = some (.cells cs t (0, 0))) (hne : t ≠ e) : A.map (·.block) ≠ some p := by
  rcases h.2 with ⟨h1, _⟩ | ⟨g, cap, cur, h1, _, h3, _⟩
  · injection h1 with h1; subst h1; simp
  · injection h1 with h1
    subst h1
    intro e2
    injection e2 with e2
    dsimp only at e2
    subst e2
    rw [hp] at h3
    injection h3 with h3
    injection h3 with _ h3
    exact hne h3
theorem Wr.below {W W' : World} {B p : Nat} {l : List UInt8} (h : Wr W B p l) (hb : Below W.heap.size W W') : Wr W' B p l := by
  obtain ⟨A, n, c, h1, h2, h3⟩ := h.ex
  exact ⟨A, n, c, (hb.block p (Array.getElem?_eq_some_iff.1 h1).1).trans h1, h2, own_below h3 hb⟩
theorem wpList_append_str {P : Program} (w : World) {ops : Array Oper} {rest : List Oper} {o : Oper} {a : Act} {Q : Exit → Act → World → Prop} {sl x : Operand} {t u e : TypeId}
    (ht : P.underlying t = some (.slice e)) (hu : P.underlying u = some .string) (he : Elem P e (.int .u8 0) 1 1)
    (hgd : o.guard = none) (ho : o.op = .call { callee := .builtin .append, args := #[sl, x], argTypes := #[t, u] })
    {base : Nat} {A0 : Option Addr} {n c0 : Nat} {l : List UInt8} (hs : a.eval sl = .slice A0 n c0) (hown : w.ownsRow base e 1 (.slice A0 n c0) n (bs l)) {s : ByteArray} (hx : a.eval x = .string s)
    (hbytes : n + s.size ≤ 35184372088832) (hbase : base ≤ w.heap.size) {k : Nat} {m : List UInt8} (hk : n + s.size = k) (hm : l ++ s.data.toList = m)
    (h : ∀ A' c' w', w'.ownsRow base e 1 (.slice A' k c') k (bs m) → w.grownBy w' (A0.map (·.block)) → wpList P ops Q rest (a.put o.dst (.slice A' k c')) w') : wpList P ops Q (o :: rest) a w := by
  obtain ⟨i, hi, hz, hsize, hby⟩ := info_parts he
  refine Lib.wpList_append_own_string w hgd sl x t u ho base e i ht hu hi hz hsize hby _ n (bs l) hs hown s hx (by unfold maxLen; omega) (by omega) hbase ?_
  intro v' w' h1 h2 _
  obtain ⟨A', c', rfl, _⟩ := own_form h1
  subst hk hm
  have e1 : (Value.slice A0 n c0).ownBlock = A0.map (·.block) := by cases A0 <;> rfl
  rw [e1] at h2
  refine h A' c' w' ?_ h2
  have e2 : bs (l ++ s.data.toList) = bs l ++ Lib.strCells s := by rw [bs_append]; rfl
  rw [e2]
  exact h1
theorem keepP {w w1 : World} {p : Nat} {o o' : Obj} {row : Option Nat} (h : w.heap[p]? = some o) (hg : (w.alloc o').grownBy w1 row) (hne : row ≠ some p) : w1.heap[p]? = some o := by
  have hl := (Array.getElem?_eq_some_iff.1 h).1
  exact (hg.block p (by simp; omega) (fun e => hne e.symm)).trans ((Below.heap_alloc w o' p hl).trans h)
theorem keepQ {w w1 : World} {p : Nat} {o : Obj} {row : Option Nat} (h : w.heap[p]? = some o) (hg : w.grownBy w1 row) (hne : row ≠ some p) : w1.heap[p]? = some o := by
  have hl := (Array.getElem?_eq_some_iff.1 h).1
  exact (hg.block p hl (fun e => hne e.symm)).trans h
theorem box_cell {w : World} {p : Nat} {v : Value} {t : TypeId} (h : w.heap[p]? = some (.cells #[v] t (0, 0))) : w.cell? ⟨p, 0, none⟩ = some v ∧ w.frozen? ⟨p, 0, none⟩ = false :=
  ⟨cell_of_row w p 0 _ _ (0, 0) h, by simp [World.frozen?, h]⟩
def WrPost (w : World) (B p : Nat) (l : List UInt8) (e : Ending) (w' : World) : Prop := e = .returned (.pointer (some ⟨p, 0, none⟩)) ∧ Wr w' B p l ∧ Below B w w'
/-- A row that is appended to, and stored in its box. -/
theorem Wr.store {W W' : World} {B p k c n c' : Nat} {A A' : Option Addr} {l : List UInt8} (h1 : W.heap[p]? = some (.cells #[.slice A n c] 90 (0, 0))) (h2 : B ≤ p) (ho : W'.ownsRow B 5 1 (.slice A' k c') k (bs l)) (hg : W'.heap[p]? = W.heap[p]?) :
    Wr (W'.setCell ⟨p, 0, none⟩ (.slice A' k c')) B p l := by
  have hp := hg.trans h1
  have hne := own_ne ho hp (by decide)
  refine ⟨A', k, c', by simp [World.setCell, Array.getElem?_modify, hp], h2, ?_⟩
  refine ho.kept (row := some p) ⟨rfl, rfl, rfl, by simp [World.setCell], fun i _ hi => Below.heap_setCell _ _ _ i (fun e => hi (by rw [e]))⟩ ?_
  cases A' with
  | none => exact .inl rfl
  | some a => exact .inr hne
set_option maxHeartbeats 1600000 in
theorem lay_any (B p : Nat) (l : List UInt8) (c d : UInt8) (s : ByteArray) (w : World) (h : Wr w B p l) (hn : l.length + s.size ≤ 1099511627776) :
    Calls Tryd.prog 48 #[.pointer (some ⟨p, 0, none⟩), .int .u8 (c.toNat : Int), .string s, .int .u8 (d.toNat : Int)] w (WrPost w B p (l ++ [c] ++ s.data.toList ++ [d])) := by
  obtain ⟨A, n, cp, h1, h2, h3⟩ := h.ex
  have hpl := (Array.getElem?_eq_some_iff.1 h1).1
  have hln : l.length = n := by have := h3.1; rw [bs_length] at this; omega
  have hne := own_ne h3 h1 (by decide)
  have hbl := own_lt h3
  have c0 : w.cell? ⟨p, 0, none⟩ = some (.slice A n cp) := cell_of_row w p 0 _ _ (0, 0) h1
  have f0 : w.frozen? ⟨p, 0, none⟩ = false := by simp [World.frozen?, h1]
  have H1 := Lib.hid h1
  have H3 := Lib.hid h3
  have Hne := Lib.hid hne
  have Hbl := Lib.hid hbl
  have Hln := Lib.hid hln
  have hn' : n + s.size ≤ 1099511627776 := by omega
  clear h h1 h3 hne hbl hn hln
  go_enter Tryd.func48, Tryd.ntmps48
  go_wp2_with (first
    | (at_builtin; refine wpList_append_any (s := .tmp 15) (news := bs [c]) _ Tryd.underlying36 u8_elem rfl (by omega) rfl rfl rfl (own_below H3.out ((Below.refl _ _).alloc (Nat.le_refl _) _)) rfl (show Rd (w.alloc (.cells #[.int .u8 (c.toNat : Int)] 5)) T 1 (some ⟨w.heap.size, 0, none⟩) 1 (bs [c]) from (Rd.lit rfl).any) (bs_one _) (by omega) (by simp; omega) rfl (bs_append l [c]).symm ?_; intro A1 c1 w1 hown1 hg1 hat1; have K1 := Lib.hid (keepP H1.out hg1 Hne.out); clear hat1)
    | (at_builtin; refine wpList_append_str (sl := .tmp 18) _ Tryd.underlying36 Tryd.underlying9 u8_elem rfl rfl rfl hown1 rfl (by omega) (by have := hg1.size; simp at this; omega) rfl rfl ?_; intro A2 c2 w2 hown2 hg2; have K2 := Lib.hid (keepQ K1.out hg2 (own_ne hown1 K1.out (by decide))))
    | (at_builtin; refine wpList_append_any (s := .tmp 20) (news := bs [d]) _ Tryd.underlying36 u8_elem rfl (by omega) rfl rfl rfl (own_below hown2 ((Below.refl _ _).alloc (Nat.le_refl _) _)) rfl (show Rd (w2.alloc (.cells #[.int .u8 (d.toNat : Int)] 5)) T 1 (some ⟨w2.heap.size, 0, none⟩) 1 (bs [d]) from (Rd.lit rfl).any) (bs_one _) (by omega) (by have := hg1.size; have := hg2.size; simp at *; omega) rfl (bs_append _ [d]).symm ?_; intro A3 c3 w3 hown3 hg3 hat3; have K3 := Lib.hid (keepP K2.out hg3 (own_ne hown2 K2.out (by decide))); obtain ⟨q0, q1⟩ := box_cell K3.out; clear hat3))
  go_ret
  refine ⟨rfl, Wr.store H1.out h2 hown3 (K3.out.trans H1.out.symm), ?_⟩
  have b1 := ((Below.refl B w).alloc (by omega) (.cells #[.int .u8 (c.toNat : Int)] 5)).grown hg1 (by simp; omega) (fun q hq => (Hbl.out q hq).1)
  have b2 := b1.grown hg2 (Nat.le_trans (by omega) b1.size) (fun q hq => (own_lt hown1 q hq).1)
  have b3 := (b2.alloc (by have := b2.size; omega) (.cells #[.int .u8 (d.toNat : Int)] 5)).grown hg3 (by have := b2.size; simp; omega) (fun q hq => (own_lt hown2 q hq).1)
  exact b3.setCell h2 _
theorem new_any (w : World) : Calls Tryd.prog 39 #[] w (fun e w' => e = .returned (.pointer (some ⟨w.heap.size, 0, none⟩)) ∧ Wr w' w.heap.size w.heap.size [] ∧ Below w.heap.size w w') := by
  go_enter Tryd.func39, Tryd.ntmps39
  go_wp2_with fail
  go_ret
  exact ⟨rfl, ⟨none, 0, 0, heap_alloc_new _ _, Nat.le_refl _, own_nil _ _ _ _ _ rfl⟩, (Below.refl _ _).alloc (Nat.le_refl _) _⟩
theorem WrPost.up {w w1 w' : World} {B p : Nat} {l : List UInt8} {e : Ending} (h : WrPost w1 B p l e w') (hb : Below w.heap.size w w1) (hB : B ≤ w.heap.size) : WrPost w B p l e w' :=
  ⟨h.1, h.2.1, (hb.mono hB).trans h.2.2⟩
def uintL (u : Nat) : List UInt8 := 110 :: (Lib.decDigits u ++ [59])
def bytesL (d : List UInt8) : List UInt8 := 98 :: (Lib.decDigits d.length ++ 58 :: d)
theorem dig_size (u : Nat) (hu : u < 18446744073709551616) : (dig u).size ≤ 20 := by
  have e1 : (dig u).size = Lib.nDigits u := by rw [← Lib.decDigits_length]; rfl
  rw [e1]
  by_cases h0 : u = 0
  · subst h0; rw [Lib.nDigits_small (by omega)]; omega
  · have := Lib.numDigits_eq u (by omega) hu; split at this <;> omega
set_option maxHeartbeats 800000 in
theorem uint_any (B p : Nat) (l : List UInt8) (u : Nat) (hu : u < 18446744073709551616) (w : World) (h : Wr w B p l) (hn : l.length ≤ 549755813888) (htab : TabW w) (hB : B ≤ w.heap.size) :
    Calls Tryd.prog 40 #[.pointer (some ⟨p, 0, none⟩), .int .u64 u] w (WrPost w B p (l ++ uintL u)) := by
  have hf := fmt_any u hu w htab
  have hd := dig_size u hu
  have hl : ∀ w1, Below w.heap.size w w1 → Calls Tryd.prog 48 #[.pointer (some ⟨p, 0, none⟩), .int .u8 110, .string (dig u), .int .u8 59] w1 (WrPost w1 B p (l ++ uintL u)) := fun w1 hb => by
    have := lay_any B p l 110 59 (dig u) w1 (h.below hb) (by omega)
    have e : l ++ [110] ++ (dig u).data.toList ++ [59] = l ++ uintL u := by simp [uintL, dig]
    rw [e] at this
    exact this
  have Hf := Lib.hid hf
  have Hl := Lib.hid hl
  clear hf hl h htab
  go_enter Tryd.func40, Tryd.ntmps40
  go_wp2_with fail
  refine Hf.out.mono ?_
  rintro e w1 ⟨rfl, hb⟩
  go_wp2_with fail
  refine (Hl.out _ hb).mono ?_
  rintro e w2 ⟨rfl, h2, hb2⟩
  go_wp2_with fail
  go_ret
  exact ⟨rfl, h2, (hb.mono hB).trans hb2⟩
set_option maxHeartbeats 1600000 in
theorem bytes_any (B p : Nat) (l d : List UInt8) (A : Option Addr) (n c : Nat) (w : World) (h : Wr w B p l) (hn : l.length ≤ 274877906944) (htab : TabW w) (hB : B ≤ w.heap.size) (hr : Rd w (· < B) 1 A n (bs d)) (hnn : n ≤ 274877906944) :
    Calls Tryd.prog 41 #[.pointer (some ⟨p, 0, none⟩), .slice A n c] w (WrPost w B p (l ++ bytesL d)) := by
  have hdn : d.length = n := hr.blen
  have hd := dig_size n (by omega)
  have hf := itoa_any n (by omega) w htab
  have hl : ∀ w1, Below w.heap.size w w1 → Calls Tryd.prog 48 #[.pointer (some ⟨p, 0, none⟩), .int .u8 98, .string (dig n), .int .u8 58] w1 (WrPost w1 B p (l ++ 98 :: (Lib.decDigits n ++ [58]))) := fun w1 hb => by
    have := lay_any B p l 98 58 (dig n) w1 (h.below hb) (by omega)
    have e : l ++ [98] ++ (dig n).data.toList ++ [58] = l ++ 98 :: (Lib.decDigits n ++ [58]) := by simp [dig]
    rw [e] at this
    exact this
  have hlen : (l ++ 98 :: (Lib.decDigits n ++ [58])).length ≤ 274877906944 + 22 := by
    have : (Lib.decDigits n).length ≤ 20 := hd
    simp
    omega
  have hfin : l ++ 98 :: (Lib.decDigits n ++ [58]) ++ d = l ++ bytesL d := by simp [bytesL, hdn]
  generalize l ++ 98 :: (Lib.decDigits n ++ [58]) = m at hl hlen hfin
  have Hf := Lib.hid hf
  have Hl := Lib.hid hl
  have Hr := Lib.hid hr
  have Hfin := Lib.hid hfin
  clear hf hl h htab hr hfin hdn
  go_enter Tryd.func41, Tryd.ntmps41
  go_wp2_with fail
  refine Hf.out.mono ?_
  rintro e w1 ⟨rfl, hb⟩
  go_wp2_with fail
  refine (Hl.out _ hb).mono ?_
  rintro e w2 ⟨rfl, h2, hb2⟩
  obtain ⟨A2, n2, c2, k1, k2, k3⟩ := h2.ex
  obtain ⟨q0, q1⟩ := box_cell k1
  have hb3 : Below B w w2 := (hb.mono hB).trans hb2
  have r2 : Rd w2 (· < B) 1 A n (bs d) := Hr.out.keep fun b h1 h2 => hb3.block b h1
  have hne := own_ne k3 k1 (by decide)
  have hm2 : m.length = n2 := by have := k3.1; rw [bs_length] at this; omega
  have hz := hb3.size
  have hpl := (Array.getElem?_eq_some_iff.1 k1).1
  have K1 := Lib.hid k1
  have K3 := Lib.hid k3
  have R2 := Lib.hid r2
  have Hne := Lib.hid hne
  have hn2 : n2 ≤ 274877906944 + 22 := by omega
  clear h2 k1 k3 r2 hne hm2 hlen
  go_wp2_with (at_builtin; refine wpList_append_any (s := .tmp 15) (news := bs d) _ Tryd.underlying36 u8_elem rfl (by omega) rfl rfl rfl K3.out rfl R2.out (bs_one _) (by omega) (by omega) rfl (bs_append m d).symm ?_; intro A3 c3 w3 hown3 hg3 hat3; have K4 := Lib.hid (keepQ K1.out hg3 Hne.out); obtain ⟨q2, q3⟩ := box_cell K4.out; clear hat3)
  go_ret
  rw [Hfin.out] at hown3
  exact ⟨rfl, Wr.store K1.out k2 hown3 (K4.out.trans K1.out.symm), (hb3.grown hg3 (Nat.le_trans hB hz) (fun q hq => (own_lt K3.out q hq).1)).setCell k2 _⟩
set_option maxHeartbeats 800000 in
theorem done_any (B p : Nat) (l : List UInt8) (w : World) (h : Wr w B p l) (hn : l.length ≤ 17592186044416) :
    Calls Tryd.prog 42 #[.pointer (some ⟨p, 0, none⟩)] w (fun e w' => ∃ A c, e = .returned (.slice A l.length c) ∧ w'.ownsRow w.heap.size 5 1 (.slice A l.length c) l.length (bs l) ∧ Below w.heap.size w w') := by
  obtain ⟨A, n, c, k1, k2, k3⟩ := h.ex
  obtain ⟨q0, q1⟩ := box_cell k1
  obtain rfl : l.length = n := by have := k3.1; rw [bs_length] at this; omega
  have hc := fun W (hb : Below w.heap.size w W) => clone_any A l.length c (bs l) W ((Rd.of_own k3).below hb) (bs_one _) (by omega)
  have Hc := Lib.hid hc
  clear h k1 k3 hc
  go_enter Tryd.func42, Tryd.ntmps42
  go_wp2_with fail
  refine (Hc.out _ (Below.refl _ _)).mono ?_
  rintro e w1 ⟨A', c', rfl, h1, hb⟩
  go_wp2_with fail
  go_ret
  exact ⟨A', c', rfl, h1, hb⟩
end Go.Proofs.YtefjejlpbfbpcaaDoor
