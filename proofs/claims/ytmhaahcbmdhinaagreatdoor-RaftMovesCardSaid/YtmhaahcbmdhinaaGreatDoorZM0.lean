/- Words for memory, over any program: what a slice reads as (Rd), its bytes (bs), append onto a row of the call's own, bytes to string
   What comes in, opened to the words of XBase: an integer, a bool, a string, a []byte, a []int, a slice of structs.
   A block of cells known whole (a variable's box): kept over calls, new blocks, draws, stores elsewhere.
   An array of integers that comes in by value.
   Slices of structs of integers: what they read as, row by row.
   Plain law of members and majorities: no program in sight. -/
import Derived.WalkKit
import Derived.WalkSpells
import Derived.Laws.OwnMore
import Derived.Deep.AppendLies
import Derived.Deep.Draws
import Derived.Laws.Rows
import Derived.Laws.IdiomStrings
import Derived.Maps.AppendAt
import Derived.RegionTactic
import Derived.OwnWalk
import Derived.Deep.OwnRows
import Derived.Lib.Hide
import Derived.Deep.QuietTactic
import Derived.BigQuiet
import Derived.Lib.SliceRun
import Derived.Lib.SlBytesConst
import Derived.ProofKit
import Derived.OpenShut
import Derived.ShutString
import Derived.ChangeOld
import Derived.Below
import Derived.Lib.SmallJoins
import Derived.Deep.Slices
import Derived.Deep.Fields
import Derived.ChangeSame
import Derived.SizedLaws
import Derived.Deep.RegionHeld3
namespace Go.Proofs.YtmhaahcbmdhinaaGreatDoor
open Go.RowKit
set_option linter.unusedVariables false
theorem lyA {α : Type _} (l : List α) (i : Nat) (a : α) : l.toArray.setIfInBounds i a = (l.set i a).toArray := List.setIfInBounds_toArray ..
theorem lyB {α : Type _} (x : α) (l : List α) (a : α) : (x :: l).set 0 a = a :: l := List.set_cons_zero
theorem lyC {α : Type _} (x : α) (l : List α) (i : Nat) (a : α) : (x :: l).set (i + 1) a = x :: l.set i a := List.set_cons_succ
set_option linter.unusedSimpArgs false

theorem block_of_add (a : Addr) (n : Nat) : (a.add n).block = a.block := by unfold Addr.add; split <;> rfl
theorem add_of_add (a : Addr) (i j : Nat) : (a.add i).add j = a.add (i + j) := by
 unfold Addr.add
 by_cases hi : i = 0 <;> by_cases hj : j = 0 <;> simp [hi, hj, Nat.add_assoc]

def Rd (w : World) (ok : Nat → Prop) (size : Nat) (A : Option Addr) (n : Nat) (xs : List Value) : Prop :=
 xs.length = n * size ∧ (0 < n → ∃ ad, A = some ad ∧ ok ad.block ∧ ∀ j u, xs[j]? = some u → w.cell? (ad.add j) = some u)

abbrev T : Nat → Prop := fun _ => True

section
variable {w w' : World} {ok ok' : Nat → Prop} {size n : Nat} {A : Option Addr} {xs : List Value}
theorem Rd.none_ : Rd w ok size A 0 [] := ⟨by simp, fun h => absurd h (by omega)⟩
theorem Rd.at_ {k : Nat} (h : Rd w ok 1 A n xs) (hk : k < n) : ∃ ad u, A = some ad ∧ ok ad.block ∧ xs[k]? = some u ∧ w.cell? (ad.add k) = some u := by
 obtain ⟨ad, e, hb, hc⟩ := h.2 (by omega)
 have hl : k < xs.length := by have := h.1; omega
 exact ⟨ad, xs[k], e, hb, List.getElem?_eq_getElem hl, hc k _ (List.getElem?_eq_getElem hl)⟩
theorem Rd.keep (h : Rd w ok size A n xs) (hk : ∀ b, ok b → b < w.heap.size → w'.heap[b]? = w.heap[b]?) : Rd w' ok size A n xs :=
 ⟨h.1, fun hn => by
  obtain ⟨ad, e, hb, hc⟩ := h.2 hn
  refine ⟨ad, e, hb, fun j u hu => ?_⟩
  have h1 := hc j u hu
  have hlt : ad.block < w.heap.size := by
   have h2 := World.block_lt_of_cell? w _ h1
   rwa [block_of_add] at h2
  rw [World.cell?_of_block (w := w)]
  ·exact h1
  ·rw [block_of_add]; exact hk _ hb hlt⟩
theorem Rd.mono (h : Rd w ok size A n xs) (hm : ∀ b, ok b → ok' b) : Rd w ok' size A n xs :=
 ⟨h.1, fun hn => by obtain ⟨ad, e, hb, hc⟩ := h.2 hn; exact ⟨ad, e, hm _ hb, hc⟩⟩
theorem Rd.any (h : Rd w ok size A n xs) : Rd w T size A n xs := h.mono fun _ _ => trivial
theorem Rd.lt (h : Rd w ok size A n xs) (hs : 0 < size) : Rd w (fun b => ok b ∧ b < w.heap.size) size A n xs :=
 ⟨h.1, fun hn => by
  obtain ⟨ad, e, hb, hc⟩ := h.2 hn
  refine ⟨ad, e, ⟨hb, ?_⟩, hc⟩
  have hpos : 0 < n * size := Nat.mul_pos hn hs
  have hl : 0 < xs.length := by rw [h.1]; exact hpos
  have h2 := World.block_lt_of_cell? w _ (hc 0 _ (List.getElem?_eq_getElem hl))
  rwa [block_of_add] at h2⟩
theorem Rd.below (h : Rd w ok size A n xs) (hb : Below w.heap.size w w') : Rd w' ok size A n xs := h.keep fun b _ hlt => hb.block b hlt
theorem Rd.drew (h : Rd w ok size A n xs) : Rd w.drew ok size A n xs := h
theorem Rd.drewN (h : Rd w ok size A n xs) (k : Nat) : Rd (w.drewN k) ok size A n xs := h
theorem Rd.alloc (h : Rd w ok size A n xs) (o : Obj) : Rd (w.alloc o) ok size A n xs := h.keep fun b _ hlt => Below.heap_alloc w o b hlt
theorem Rd.setCell (h : Rd w ok size A n xs) {p : Addr} (hp : ¬ ok p.block) (u : Value) : Rd (w.setCell p u) ok size A n xs :=
 h.keep fun b hb _ => Below.heap_setCell w p u b (fun e => hp (e ▸ hb))
theorem Rd.grown (h : Rd w ok size A n xs) {row : Option Nat} (hg : w.grownBy w' row) (hr : ∀ g, row = some g → ¬ ok g) : Rd w' ok size A n xs :=
 h.keep fun b hb hlt => hg.block b hlt (fun e => hr b e.symm hb)
theorem Rd.cut (h : Rd w ok size A n xs) {k cap : Nat} (hk : k ≤ n) (hc : n ≤ cap) :
  Rd w ok size (if cap = k then A else A.map (·.add (k * size))) (n - k) (xs.drop (k * size)) := by
 refine ⟨by rw [List.length_drop, h.1, Nat.sub_mul], fun hn => ?_⟩
 obtain ⟨ad, rfl, hb, hcell⟩ := h.2 (by omega)
 rw [if_neg (by omega)]
 refine ⟨ad.add (k * size), rfl, by rw [block_of_add]; exact hb, fun j u hu => ?_⟩
 rw [add_of_add]
 exact hcell _ u (by rw [← hu, List.getElem?_drop])
theorem Rd.take (h : Rd w ok size A n xs) {k : Nat} (hk : k ≤ n) : Rd w ok size A k (xs.take (k * size)) := by
 refine ⟨?_, fun hn => ?_⟩
 ·have := Nat.mul_le_mul_right size hk
  rw [List.length_take, h.1]; omega
 ·obtain ⟨ad, rfl, hb, hcell⟩ := h.2 (by omega)
  refine ⟨ad, rfl, hb, fun j u hu => hcell j u ?_⟩
  rw [List.getElem?_take] at hu
  split at hu
  ·exact hu
  ·cases hu
theorem Rd.sub (h : Rd w ok size A n xs) {l k m : Nat} (h1 : l + k ≤ n) (hm : l + k ≤ m) : Rd w ok size (if m = l then A else A.map (·.add (l * size))) k ((xs.drop (l * size)).take (k * size)) := by
 have hle : l * size + k * size ≤ n * size := by rw [← Nat.add_mul]; exact Nat.mul_le_mul_right size h1
 refine ⟨by rw [List.length_take, List.length_drop, h.1]; omega, fun hn => ?_⟩
 obtain ⟨ad, rfl, hb, hcell⟩ := h.2 (by omega)
 rw [if_neg (by omega)]
 refine ⟨ad.add (l * size), rfl, by rw [block_of_add]; exact hb, fun j u hu => ?_⟩
 rw [add_of_add]
 rw [List.getElem?_take] at hu
 split at hu
 ·exact hcell _ u (by rw [← hu, List.getElem?_drop])
 ·cases hu
theorem Rd.of_own {base : Nat} {e : TypeId} {c : Nat} (h : w.ownsRow base e size (.slice A n c) n xs) : Rd w (base ≤ ·) size A n xs := by
 refine ⟨h.1, fun hn => ?_⟩
 obtain ⟨g, cap, hv, hb, hlt⟩ := h.form hn
 have hA : A = some ⟨g, 0, none⟩ := by injection hv
 subst hA
 exact ⟨_, rfl, hb, h.cells (g := g) rfl⟩
theorem Rd.nil_of_none (h : Rd w ok size none n xs) : n = 0 ∧ xs = [] := by
 have hn : n = 0 := by
  rcases Nat.eq_zero_or_pos n with h0 | h0
  ·exact h0
  ·obtain ⟨ad, h', _⟩ := h.2 h0
   cases h'
 subst hn
 exact ⟨rfl, List.eq_nil_of_length_eq_zero (by simpa using h.1)⟩
theorem Rd.nil_of_zero (h : Rd w ok size A 0 xs) : xs = [] := List.eq_nil_of_length_eq_zero (by simpa using h.1)
end

theorem Rd.lit {w : World} {cs : Array Value} {t : TypeId} {fr : Nat × Nat} {k : Nat} (hk : cs.size = k) : Rd (w.alloc (.cells cs t fr)) (w.heap.size ≤ ·) 1 (some ⟨w.heap.size, 0, none⟩) k cs.toList := by
 refine ⟨by simpa using hk, fun _ => ⟨_, rfl, Nat.le_refl _, fun j u hu => ?_⟩⟩
 exact World.news_of_block (heap_alloc_new w _) j u hu
theorem own_form {w : World} {base : Nat} {e : TypeId} {size n : Nat} {v : Value} {xs : List Value} (h : w.ownsRow base e size v n xs) : ∃ A c, v = .slice A n c ∧ n ≤ c ∧ c ≤ maxLen := by
 rcases h.2 with ⟨rfl, rfl⟩ | ⟨g, cap, cur, rfl, _, _, hnc, hcm, _⟩
 ·exact ⟨none, 0, rfl, Nat.le_refl _, by simp [maxLen]⟩
 ·exact ⟨some ⟨g, 0, none⟩, cap, rfl, hnc, hcm⟩

theorem own_lt {w : World} {base : Nat} {e : TypeId} {size n m c : Nat} {A : Option Addr} {xs : List Value} (h : w.ownsRow base e size (.slice A n c) m xs) : ∀ g, A.map (·.block) = some g → base ≤ g ∧ g < w.heap.size := by
 intro g hg
 refine h.lt g ?_
 cases A with
 | none => simp at hg
 | some a => simpa [Value.ownBlock] using hg
/-! ### bytes -/
def bs (l : List UInt8) : List Value := l.map fun c => Value.int .u8 (c.toNat : Int)
theorem bs_length (l : List UInt8) : (bs l).length = l.length := by simp [bs]
theorem bs_append (a b : List UInt8) : bs (a ++ b) = bs a ++ bs b := by simp [bs]
theorem bs_drop (l : List UInt8) (k : Nat) : bs (l.drop k) = (bs l).drop k := by simp [bs, List.map_drop]
theorem bs_take (l : List UInt8) (k : Nat) : bs (l.take k) = (bs l).take k := by simp [bs, List.map_take]
theorem bs_nil : bs [] = [] := rfl
theorem bs_one (l : List UInt8) : ∀ u ∈ bs l, u.oneCell' = true := by
 intro u hu
 simp only [bs, List.mem_map] at hu
 obtain ⟨c, _, rfl⟩ := hu
 rfl
theorem bs_get (l : List UInt8) (k : Nat) (h : k < l.length) : (bs l)[k]? = some (.int .u8 (l[k].toNat : Int)) := by simp [bs, h]

section
variable {P : Program} {w : World} {ok : Nat → Prop} {A : Option Addr} {n c : Nat} {l : List UInt8}
theorem Rd.blen (h : Rd w ok 1 A n (bs l)) : l.length = n := by have := h.1; rw [bs_length] at this; omega
theorem Rd.bsub (h : Rd w ok 1 A n (bs l)) {i k m : Nat} (h1 : i + k ≤ n) (hm : i + k ≤ m) : Rd w ok 1 (if m = i then A else A.map (·.add i)) k (bs ((l.drop i).take k)) := by
 have := h.sub h1 hm
 rw [bs_take, bs_drop]
 simpa using this
theorem Rd.byte (h : Rd w ok 1 A n (bs l)) {k : Nat} (hk : k < n) : ∃ ad, A = some ad ∧ ok ad.block ∧ w.cell? (ad.add k) = some (.int .u8 ((l.getD k 0).toNat : Int)) := by
 obtain ⟨ad, u, e, hb, hx, hc⟩ := h.at_ hk
 refine ⟨ad, e, hb, ?_⟩
 have hl := h.blen
 rw [bs_get l k (by omega)] at hx
 rw [hc, ← hx, List.getD_eq_getElem?_getD, List.getElem?_eq_getElem (by omega)]
 rfl
theorem conv_bytes (src dst e : TypeId) (hs : P.underlying src = some (.slice e)) (he : P.underlying e = some (.int .u8)) (hd : P.underlying dst = some .string) (h : Rd w ok 1 A n (bs l)) :
  (convert src dst (.slice A n c)).run P w = .ok (.string ⟨l.toArray⟩) w := by
 have hl := h.blen
 subst hl
 cases A with
 | none =>
  obtain ⟨h0, h1⟩ := h.nil_of_none
  have : l = [] := List.eq_nil_of_length_eq_zero h0
  subst this
  exact run_convert_bytes_nil (P := P) w src e hs he _ c dst hd
 | some a =>
  refine run_convert_bytes_back (P := P) w src dst e a c l hs he hd fun j hj => ?_
  obtain ⟨ad, u, e1, _, hx, hc⟩ := h.at_ (k := j) hj
  injection e1 with e1
  subst e1
  rw [hc, ← hx, bs_get l j hj]
end

theorem run_slice3 {P : Program} (t : TypeId) {e : TypeId} {size : Nat} (ht : P.underlying t = some (.slice e)) (hz : (P.info? e).map (·.size) = some size) (a : Option Addr) (n c l h m : Nat) (h1 : l ≤ h) (h2 : h ≤ m) (h3 : m ≤ c) (w : World) :
  (Instr.sliceAt t (.slice a n c) (some (.int .i64 (l : Int))) (some (.int .i64 (h : Int))) (some (.int .i64 (m : Int)))).run P w = .ok (.slice (if m = l then a else a.map (·.add (l * size))) (h - l) (m - l)) w := by
 have he : P.elem t = e := by unfold Program.elem; rw [ht]
 have ht' : P.underlying t = some (.slice (P.elem t)) := by rw [he]; exact ht
 have hsz : (sizeOf (P.elem t)).run P w = .ok size w := by
  obtain ⟨i, hi, rfl⟩ := Option.map_eq_some_iff.1 hz
  rw [he]
  simp [sizeOf, typeInfo, hi]
 rw [run_sliceAt_slice (P := P) (w := w) t _ _ _ _ ht', run_slice_lhm (P := P) (w := w) (t := t) (a := a) (len := n) (cap := c) ht' .i64 .i64 .i64 _ _ _ (by omega) (by omega) (by omega) (by omega), hsz]
 simp [sliced]

/-! ### append onto a row of the call's own -/
section
variable {P : Program} (w : World)

theorem run_append_of_nil (base : Nat) (t ty e : TypeId) (i : TypeInfo) (size : Nat) (ht : P.underlying t = some (.slice e)) (hi : P.info? e = some i)
  (v : Value) (n : Nat) (xs : List Value) (hown : w.ownsRow base e size v n xs) (c : Nat) : (Builtin.append_ #[t, t] ty #[v, .slice none 0 c]).run P w = .ok v w := by
 rcases hown.2 with ⟨rfl, rfl⟩ | ⟨g, cap, cur, rfl, _, _, hnc, _⟩
 ·simp [Builtin.append_, run_underlying ht, sizeOf, typeInfo, hi, Builtin.lenOf, Builtin.firstCells]
 ·simp [Builtin.append_, run_underlying ht, sizeOf, typeInfo, hi, Builtin.lenOf, Builtin.firstCells, hnc, storeCells]

def Elem (P : Program) (e : TypeId) (z : Value) (size bytes : Nat) : Prop := (P.info? e).map (fun i => (i.zero, i.size, i.bytes)) = some (some z, size, bytes)

theorem run_append_any (base : Nat) (t ty e : TypeId) (z : Value) (size bytes : Nat) (ht : P.underlying t = some (.slice e)) (he : Elem P e z size bytes) (hzs : z.cells.size = size) (hsz : 0 < size)
  (v : Value) (n : Nat) (xs : List Value) (hown : w.ownsRow base e size v n xs)
  (ok : Nat → Prop) (A : Option Addr) (m c : Nat) (news : List Value) (hr : Rd w ok size A m news) (h1 : ∀ u ∈ news, u.oneCell' = true)
  (hbytes : (n + m) * (bytes + 1) ≤ 140737488355328) (hbase : base ≤ w.heap.size) :
  ∃ v' w', (Builtin.append_ #[t, t] ty #[v, .slice A m c]).run P w = .ok v' w' ∧ w'.ownsRow base e size v' (n + m) (xs ++ news) ∧ w.grownBy w' v.ownBlock ∧
   (v'.ownBlock = v.ownBlock ∨ v'.ownBlock = some w.heap.size) := by
 obtain ⟨i, hi, hz, hsize, hby⟩ := info_parts he
 have h63 : n + m ≤ maxLen := by
  have : n + m ≤ (n + m) * (bytes + 1) := Nat.le_mul_of_pos_right _ (by omega)
  simp only [maxLen]; omega
 have hbytes' : (n + m) * bytes ≤ 140737488355328 := Nat.le_trans (Nat.mul_le_mul_left _ (by omega)) hbytes
 rcases A with _ | ad
 ·obtain ⟨hm, hn⟩ := hr.nil_of_none
  subst hm hn
  exact ⟨v, w, run_append_of_nil w base t ty e i size ht hi v n xs hown c, by simpa using hown, World.grownBy.refl w _, .inl rfl⟩
 ·have hcells : ∀ j u, news[j]? = some u → w.cell? (ad.add j) = some u := by
   intro j u hu
   rcases Nat.eq_zero_or_pos m with h0 | h0
   ·subst h0
    rw [hr.nil_of_zero] at hu
    simp at hu
   ·obtain ⟨ad', h, _, hc⟩ := hr.2 h0
    injection h with h
    subst h
    exact hc j u hu
  obtain ⟨v', w', hrun, h2, h3, _, h5⟩ := run_append_own_at (P := P) w base t ty e i z size bytes ht hi hz hsize hby hzs hsz v n xs hown ad m c news hr.1 hcells h1 h63 hbytes' hbase
  exact ⟨v', w', hrun, h2, h3, h5⟩

theorem wp_append_any {o : Oper} {a : Act} {K : Act → World → Prop} {Q : Exit → Act → World → Prop} {s x : Operand} {t e : TypeId} {z : Value} {size bytes : Nat}
  (ht : P.underlying t = some (.slice e)) (he : Elem P e z size bytes) (hzs : z.cells.size = size) (hsz : 0 < size)
  (ho : o.op = .call { callee := .builtin .append, args := #[s, x], argTypes := #[t, t] })
  {base : Nat} {A0 : Option Addr} {n c0 : Nat} {xs : List Value} (hs : a.eval s = .slice A0 n c0) (hown : w.ownsRow base e size (.slice A0 n c0) n xs)
  {ok : Nat → Prop} {A : Option Addr} {m c : Nat} {news : List Value} (hx : a.eval x = .slice A m c) (hr : Rd w ok size A m news) (h1 : ∀ u ∈ news, u.oneCell' = true)
  (hbytes : (n + m) * (bytes + 1) ≤ 140737488355328) (hbase : base ≤ w.heap.size) {k : Nat} {ys : List Value} (hk : n + m = k) (hys : xs ++ news = ys)
  (h : ∀ A' c' w', w'.ownsRow base e size (.slice A' k c') k ys → w.grownBy w' (A0.map (·.block)) → (A'.map (·.block) = A0.map (·.block) ∨ A'.map (·.block) = some w.heap.size) → K (a.put o.dst (.slice A' k c')) w') : o.wp P a w K Q := by
 obtain ⟨v', w', hrun, h2, h3, h4⟩ := run_append_any (P := P) w base t o.type e z size bytes ht he hzs hsz _ n xs hown ok A m c news hr h1 hbytes hbase
 obtain ⟨A', c', rfl, _⟩ := own_form h2
 subst hk hys
 unfold Oper.wp execOp
 simp only [ho, resolve, invoke, builtin, Sem.run_bind, Sem.run_pure, Result.andThen_ok, List.map_toArray, List.map_cons, List.map_nil, hs, hx, hrun]
 have e1 : ∀ (B : Option Addr) (p q : Nat), (Value.slice B p q).ownBlock = B.map (·.block) := fun B p q => by cases B <;> rfl
 rw [e1] at h3 h4
 rw [e1] at h4
 exact h A' c' w' h2 h3 h4

theorem wpList_append_any {ops : Array Oper} {rest : List Oper} {o : Oper} {a : Act} {Q : Exit → Act → World → Prop} {s x : Operand} {t e : TypeId} {z : Value} {size bytes : Nat}
  (ht : P.underlying t = some (.slice e)) (he : Elem P e z size bytes) (hzs : z.cells.size = size) (hsz : 0 < size)
  (hgd : o.guard = none) (ho : o.op = .call { callee := .builtin .append, args := #[s, x], argTypes := #[t, t] })
  {base : Nat} {A0 : Option Addr} {n c0 : Nat} {xs : List Value} (hs : a.eval s = .slice A0 n c0) (hown : w.ownsRow base e size (.slice A0 n c0) n xs)
  {ok : Nat → Prop} {A : Option Addr} {m c : Nat} {news : List Value} (hx : a.eval x = .slice A m c) (hr : Rd w ok size A m news) (h1 : ∀ u ∈ news, u.oneCell' = true)
  (hbytes : (n + m) * (bytes + 1) ≤ 140737488355328) (hbase : base ≤ w.heap.size) {k : Nat} {ys : List Value} (hk : n + m = k) (hys : xs ++ news = ys)
  (h : ∀ A' c' w', w'.ownsRow base e size (.slice A' k c') k ys → w.grownBy w' (A0.map (·.block)) → (A'.map (·.block) = A0.map (·.block) ∨ A'.map (·.block) = some w.heap.size) → wpList P ops Q rest (a.put o.dst (.slice A' k c')) w') : wpList P ops Q (o :: rest) a w :=
 wpList_plain hgd fun _ hK => wp_append_any w ht he hzs hsz ho hs hown hx hr h1 hbytes hbase hk hys fun A' c' w' h2 h3 h4 => hK _ _ (h A' c' w' h2 h3 h4)
end

theorem step_append_any {P : Program} (w : World) {ops : Array Oper} {o : Oper} {a : Act} {K : Act → World → Prop} {Q : Exit → Act → World → Prop} {E : Prop} {s x : Operand} {t e : TypeId} {z : Value} {size bytes : Nat}
  (ht : P.underlying t = some (.slice e)) (he : Elem P e z size bytes) (hzs : z.cells.size = size) (hsz : 0 < size)
  (hgd : o.guard = none) (ho : o.op = .call { callee := .builtin .append, args := #[s, x], argTypes := #[t, t] })
  {base : Nat} {A0 : Option Addr} {n c0 : Nat} {xs : List Value} (hs : a.eval s = .slice A0 n c0) (hown : w.ownsRow base e size (.slice A0 n c0) n xs)
  {ok : Nat → Prop} {A : Option Addr} {m c : Nat} {news : List Value} (hx : a.eval x = .slice A m c) (hr : Rd w ok size A m news) (h1 : ∀ u ∈ news, u.oneCell' = true)
  (hbytes : (n + m) * (bytes + 1) ≤ 140737488355328) (hbase : base ≤ w.heap.size) {k : Nat} {ys : List Value} (hk : n + m = k) (hys : xs ++ news = ys)
  (h : ∀ A' c' w', w'.ownsRow base e size (.slice A' k c') k ys → w.grownBy w' (A0.map (·.block)) → (A'.map (·.block) = A0.map (·.block) ∨ A'.map (·.block) = some w.heap.size) → K (a.put o.dst (.slice A' k c')) w') :
  if Region.wanted o (yielded ops a.tmps) = true then Oper.wp P o a w K Q else E := by
 have hw : Region.wanted o (yielded ops a.tmps) = true := by simp [Region.wanted, hgd]
 rw [if_pos hw]
 exact wp_append_any w ht he hzs hsz ho hs hown hx hr h1 hbytes hbase hk hys h

theorem own_nil (w : World) (base : Nat) (e : TypeId) (size : Nat) (c : Nat) (hc : c = 0) : w.ownsRow base e size (.slice none 0 c) 0 [] := by subst hc; exact World.ownsRow_nil w base e size
theorem own_new (w : World) (base : Nat) (e : TypeId) (size : Nat) (hb : base ≤ w.heap.size) : (w.alloc (.cells #[] e)).ownsRow base e size (.slice (some ⟨w.heap.size, 0, none⟩) 0 0) 0 [] :=
 World.ownsRow_made w _ 0 hb (by simp [maxLen]) (by simp)

theorem bcell {W w1 : World} (hb : Below W.heap.size W w1) : (∀ b o, b < W.heap.size → w1.cell? ⟨b, o, none⟩ = W.cell? ⟨b, o, none⟩) ∧ (∀ b o, b < W.heap.size → w1.frozen? ⟨b, o, none⟩ = W.frozen? ⟨b, o, none⟩) :=
 ⟨fun b o h => hb.cell (p := ⟨b, o, none⟩) h, fun b o h => hb.frozen (p := ⟨b, o, none⟩) h⟩

theorem below_drewN {B : Nat} {a w : World} (h : Below B a w) (n : Nat) : Below B a (w.drewN n) := ⟨h.os, h.tape, h.output, h.size, h.block⟩

/-! ### a function's own result cell: everything that was there in w is as it was, but for block R, which still has its k cells -/
/-- What lies in a cell: a word that the walk does not open. -/
def peek (W : World) (R i : Nat) : Value := (W.cell? ⟨R, i, none⟩).getD undef
structure Fr (w : World) (R k : Nat) (W : World) : Prop where
 gr : w.grownBy W (some R)
 lt : R < w.heap.size
 bx : ∃ (cs : Array Value) (t : TypeId), cs.size = k ∧ W.heap[R]? = some (.cells cs t (0, 0))
section
variable {w W W' : World} {R k : Nat}
theorem Fr.start {cs : Array Value} {t : TypeId} (h : w.heap[R]? = some (.cells cs t (0, 0))) (hk : cs.size = k) : Fr w R k w :=
 ⟨World.grownBy.refl w _, (Array.getElem?_eq_some_iff.1 h).1, cs, t, hk, h⟩
theorem Fr.new {w0 : World} {cs : Array Value} {t : TypeId} (hR : R = w0.heap.size) (hk : cs.size = k) : Fr (w0.alloc (.cells cs t)) R k (w0.alloc (.cells cs t)) := by
 subst hR
 exact Fr.start (heap_alloc_new _ _) hk
theorem Fr.drew (h : Fr w R k W) : Fr w R k W.drew := ⟨⟨h.gr.os, h.gr.tape, h.gr.output, h.gr.size, h.gr.block⟩, h.lt, h.bx⟩
theorem Fr.drewN (h : Fr w R k W) (n : Nat) : Fr w R k (W.drewN n) := ⟨⟨h.gr.os, h.gr.tape, h.gr.output, h.gr.size, h.gr.block⟩, h.lt, h.bx⟩
theorem Fr.below (h : Fr w R k W) (hb : Below W.heap.size W W') : Fr w R k W' := by
 have hs := h.gr.size
 obtain ⟨cs, t, h1, h2⟩ := h.bx
 exact ⟨⟨hb.os.trans h.gr.os, hb.tape.trans h.gr.tape, hb.output.trans h.gr.output, Nat.le_trans h.gr.size hb.size, fun i hi hn => (hb.block i (by omega)).trans (h.gr.block i hi hn)⟩, h.lt,
  cs, t, h1, (hb.block R (by have := h.lt; omega)).trans h2⟩
theorem Fr.alloc (h : Fr w R k W) (o : Obj) : Fr w R k (W.alloc o) := h.below ((Below.refl _ _).alloc (Nat.le_refl _) o)
theorem Fr.set (h : Fr w R k W) (i : Nat) (v : Value) : Fr w R k (W.setCell ⟨R, i, none⟩ v) := by
 obtain ⟨cs, t, h1, h2⟩ := h.bx
 refine ⟨⟨h.gr.os, h.gr.tape, h.gr.output, by simpa [World.setCell] using h.gr.size, fun j hj hn => (Below.heap_setCell W _ v j (fun e => hn (by rw [e]))).trans (h.gr.block j hj hn)⟩, h.lt,
  cs.setIfInBounds i v, t, by simpa using h1, ?_⟩
 simp [World.setCell, Array.getElem?_modify, h2]
theorem Fr.far (h : Fr w R k W) {p : Addr} (hp : w.heap.size ≤ p.block) (v : Value) : Fr w R k (W.setCell p v) := by
 obtain ⟨cs, t, h1, h2⟩ := h.bx
 have hl := h.lt
 exact ⟨⟨h.gr.os, h.gr.tape, h.gr.output, by simpa [World.setCell] using h.gr.size, fun j hj hn => (Below.heap_setCell W p v j (by omega)).trans (h.gr.block j hj hn)⟩, h.lt,
  cs, t, h1, (Below.heap_setCell W p v R (by omega)).trans h2⟩
theorem Fr.grown {row : Option Nat} (h : Fr w R k W) (hg : W.grownBy W' row) (hr : ∀ g, row = some g → w.heap.size ≤ g) : Fr w R k W' := by
 have hs := h.gr.size
 have hl := h.lt
 obtain ⟨cs, t, h1, h2⟩ := h.bx
 exact ⟨⟨hg.os.trans h.gr.os, hg.tape.trans h.gr.tape, hg.output.trans h.gr.output, Nat.le_trans h.gr.size hg.size,
  fun i hi hn => (hg.block i (by omega) (fun e => by have := hr i e.symm; omega)).trans (h.gr.block i hi hn)⟩, h.lt,
  cs, t, h1, (hg.block R (by omega) (fun e => by have := hr R e.symm; omega)).trans h2⟩
theorem Fr.cell (h : Fr w R k W) {g i : Nat} {v : Value} (hg : g ≠ R) (hc : w.cell? ⟨g, i, none⟩ = some v) : W.cell? ⟨g, i, none⟩ = some v := by
 rw [World.cell?_of_block (w := w)]
 ·exact hc
 ·exact h.gr.block g (World.block_lt_of_cell? w _ hc) (fun e => hg (by injection e))
theorem Fr.is (h : Fr w R k W) {i : Nat} (hi : i < k) : (W.cell? ⟨R, i, none⟩).isSome = true := by
 obtain ⟨cs, t, h1, h2⟩ := h.bx
 rw [cell_of_row W R i cs t (0, 0) h2]
 simp [h1, hi]
theorem Fr.pk (h : Fr w R k W) {i : Nat} (hi : i < k) : W.cell? ⟨R, i, none⟩ = some (peek W R i) := by
 obtain ⟨u, hu⟩ := Option.isSome_iff_exists.1 (h.is hi)
 simp [peek, hu]
theorem Fr.fz (h : Fr w R k W) (i : Nat) : W.frozen? ⟨R, i, none⟩ = false := by
 obtain ⟨cs, t, h1, h2⟩ := h.bx
 simp [World.frozen?, h2]
theorem Fr.to_below (h : Fr w R k W) {B : Nat} (hB : B ≤ R) : Below B w W :=
 ⟨h.gr.os, h.gr.tape, h.gr.output, h.gr.size, fun i hi => h.gr.block i (by have := h.lt; omega) (fun e => by injection e; omega)⟩
theorem Fr.rd {ok : Nat → Prop} {size n : Nat} {A : Option Addr} {xs : List Value} (h : Fr w R k W) (hr : Rd w ok size A n xs) (hok : ¬ ok R) : Rd W ok size A n xs :=
 hr.keep fun b hb hlt => h.gr.block b hlt (fun e => by injection e with e; exact hok (e ▸ hb))
end
end Go.Proofs.YtmhaahcbmdhinaaGreatDoor
namespace Go.Proofs.YtmhaahcbmdhinaaGreatDoor
open Go.ChangeShapes Go.WideShapes Go.ChangeAt Go.RowKit Go.Joins Go.Deep
set_option linter.unusedVariables false
set_option linter.unusedSimpArgs false
section
variable {H : Type} {enc : TypeId × Value → H} {P : Program} {w : World} {base : Nat} {spare : Nat → Bool} {held : Bool} {fuel : Nat} {v : Value} {x : DataW H × List MemPlace} {t e : TypeId}

theorem in_int {k : IntKind} (ht : P.underlying t = some (.int k)) (h : DataW.trod enc P w base spare held fuel t [v] = some x) : ∃ n, v = .int k n ∧ (Lit.int k n).wf = true := by
 obtain ⟨n, hc, _, hw⟩ := DataW.trod_int ht h
 exact ⟨n, by simpa using hc, hw⟩
end
section
variable {H : Type} {enc : TypeId × Value → H} {P : Program} {w : World} {base : Nat} {spare : Nat → Bool} {held : Bool}
theorem open_slice_fields {t e : TypeId} {fs : Array Field} {fuel : Nat} {cs : List Value} {x : DataW H × List MemPlace} (ht : P.underlying t = some (.slice e)) (he : P.underlying e = some (.struct fs))
  (hone : oneCellFields P fs = true) (hC : P.cellsOf e = fs.size) (h : DataW.trod enc P w base spare held fuel t cs = some x) :
  (cs = [.slice none 0 0] ∧ x = (.nil, [])) ∨
  ∃ (a : Addr) (len cap m : Nat) (D : Nat → DataW H) (Pl : Nat → List MemPlace), cs = [.slice (some a) len cap] ∧ base ≤ a.block ∧ len ≤ cap ∧ cap ≤ maxLen ∧ m = (if spare a.block then cap else len) ∧
   x = (.slice ((List.range len).map D) ((List.range (m - len)).map fun j => D (len + j)), MemPlace.row a (m * fs.size) ++ (List.range m).flatMap Pl) ∧
   ∀ i, i < m → ∃ (ys : List (DataW H × List MemPlace)) (n : Nat), D i = .agg (ys.map (·.1)) ∧ Pl i = ys.flatMap (·.2) ∧ ys.length = fs.size ∧
    ∀ (j : Nat) (f : Field), fs[j]? = some f → ∃ (v : Value) (y : DataW H × List MemPlace), w.cell? (a.add (i * fs.size + j)) = some v ∧ ys[j]? = some y ∧ DataW.trod enc P w base spare held n f.type [v] = some y := by
 rcases open_slice ht h with h0 | ⟨a, len, cap, m, n, D, Pl, hcs, hb, hl, hm, hmm, hx, hi⟩
 ·exact .inl h0
 ·refine .inr ⟨a, len, cap, m, D, Pl, hcs, hb, hl, hm, hmm, by rw [hC] at hx; exact hx, fun i him => ?_⟩
  obtain ⟨cs', hc, ht'⟩ := hi i him
  rw [hC] at hc
  obtain ⟨ys, n', hn', hy, hlen, hyl, hf⟩ := DataW.trod_struct he ht'
  obtain ⟨_, hcl, hat⟩ := World.cells?_some hc
  simp only [Prod.mk.injEq] at hy
  refine ⟨ys, n', hy.1, hy.2, hyl, fun j f hj => ?_⟩
  obtain ⟨ho, hk⟩ := hone_of hone j f hj
  have hjl : j < fs.size := (Array.getElem?_eq_some_iff.1 hj).1
  have hcell := hat j hjl
  have hv : cs'[j]? = some (cs'[j]'(by omega)) := List.getElem?_eq_getElem (by omega)
  have h1 := hf j f hj
  rw [ho, hk] at h1
  have hone' : (cs'.drop j).take 1 = [cs'[j]'(by omega)] := by
   rw [List.drop_eq_getElem_cons (by omega)]
   rfl
  rw [hone'] at h1
  have hys : ys[j]? = some (ys[j]'(by omega)) := List.getElem?_eq_getElem (by omega)
  refine ⟨_, _, ?_, hys, h1.trans hys⟩
  rw [← Go.Deep.add_add, hcell, hv]
end

section
variable {H : Type} {enc : TypeId × Value → H} {P : Program} {w : World} {base : Nat} {spare : Nat → Bool} {held : Bool} {fuel : Nat} {v : Value} {x : DataW H × List MemPlace} {t e : TypeId}
theorem in_rows {fs : Array Field} (ht : P.underlying t = some (.slice e)) (he : P.underlying e = some (.struct fs)) (hone : oneCellFields P fs = true) (hC : P.cellsOf e = fs.size) (hpos : 0 < fs.size)
  (h : DataW.trod enc P w base spare held fuel t [v] = some x) :
  ∃ A n c, v = .slice A n c ∧ n ≤ c ∧ c ≤ maxLen ∧ (A = none → n = 0 ∧ c = 0) ∧ ∀ i, i < n → ∃ (b o : Nat) (cs : List Value) (m : Nat), A = some ⟨b, o, none⟩ ∧ cs.length = fs.size ∧
   (∀ j u, cs[j]? = some u → w.cell? ⟨b, o + i * fs.size + j, none⟩ = some u) ∧ ∀ (j : Nat) (f : Field), fs[j]? = some f → ∃ u y, cs[j]? = some u ∧ DataW.trod enc P w base spare held m f.type [u] = some y := by
 rcases open_slice_fields ht he hone hC h with ⟨hcs, _⟩ | ⟨a, len, cap, m, D, Pl, hcs, _, hl, hm, hmm, _, hi⟩
 ·exact ⟨none, 0, 0, by simpa using hcs, Nat.le_refl _, by simp [maxLen], fun _ => ⟨rfl, rfl⟩, fun i hi => by omega⟩
 ·refine ⟨some a, len, cap, by simpa using hcs, hl, hm, (fun h => by cases h), fun i hil => ?_⟩
  have him : i < m := by rw [hmm]; split <;> omega
  obtain ⟨ys, n', _, _, hyl, hf⟩ := hi i him
  have hspot : a.spot = none := by
   obtain ⟨ys0, n0, _, _, _, hf0⟩ := hi 0 (by omega)
   obtain ⟨u, y, hc, _⟩ := hf0 0 _ (Array.getElem?_eq_getElem hpos)
   have : (a.add (0 * fs.size + 0)) = a := by simp [Addr.add]
   rw [this] at hc
   obtain ⟨b, o, sp⟩ := a
   exact World.cell?_spot hc
  obtain ⟨b, o, sp⟩ := a
  dsimp only at hspot
  subst hspot
  have hadd : ∀ k, (⟨b, o, none⟩ : Addr).add k = ⟨b, o + k, none⟩ := fun k => by unfold Addr.add; split <;> simp_all
  refine ⟨b, o, (List.range fs.size).map fun j => (w.cell? ⟨b, o + i * fs.size + j, none⟩).getD undef, n', rfl, by simp, fun j u hu => ?_, fun j f hj => ?_⟩
  ·simp only [List.getElem?_map] at hu
   by_cases hjl : j < fs.size
   ·obtain ⟨u', y, hc, _⟩ := hf j _ (Array.getElem?_eq_getElem hjl)
    rw [hadd, ← Nat.add_assoc] at hc
    rw [List.getElem?_range hjl] at hu
    simp only [Option.map_some, hc, Option.getD_some, Option.some.injEq] at hu
    rw [hc, hu]
   ·rw [List.getElem?_eq_none (by simpa using hjl)] at hu
    cases hu
  ·have hjl : j < fs.size := (Array.getElem?_eq_some_iff.1 hj).1
   obtain ⟨u', y, hc, hy, ht'⟩ := hf j f hj
   rw [hadd, ← Nat.add_assoc] at hc
   exact ⟨u', y, by rw [List.getElem?_map, List.getElem?_range hjl]; simp [hc], ht'⟩
end
def I64 (z : Int) : Prop := -9223372036854775808 ≤ z ∧ z ≤ 9223372036854775807
theorem i64_of_wf {z : Int} (h : (Lit.int .i64 z).wf = true) : I64 z := by
 simpa [I64, Lit.wf, IntKind.min, IntKind.max, IntKind.signed, IntKind.bits] using h
end Go.Proofs.YtmhaahcbmdhinaaGreatDoor
namespace Go.Proofs.YtmhaahcbmdhinaaGreatDoor
open Go.RowKit
set_option linter.unusedVariables false
set_option linter.unusedSimpArgs false
structure Bx (W : World) (g : Nat) (cs : Array Value) : Prop where
 hp : ∃ t, W.heap[g]? = some (.cells cs t (0, 0))
section
variable {W W' : World} {g : Nat} {cs : Array Value}
theorem Bx.c (h : Bx W g cs) : ∀ i, W.cell? ⟨g, i, none⟩ = cs[i]? := fun i => by
 obtain ⟨t, ht⟩ := h.hp
 exact cell_of_row W g i cs t (0, 0) ht
theorem Bx.f (h : Bx W g cs) : ∀ i, W.frozen? ⟨g, i, none⟩ = false := fun i => by
 obtain ⟨t, ht⟩ := h.hp
 simp [World.frozen?, ht]
theorem Bx.lt (h : Bx W g cs) : g < W.heap.size := by
 obtain ⟨t, ht⟩ := h.hp
 exact (Array.getElem?_eq_some_iff.1 ht).1
theorem Bx.keep (h : Bx W g cs) (hk : W'.heap[g]? = W.heap[g]?) : Bx W' g cs := by
 obtain ⟨t, ht⟩ := h.hp
 exact ⟨t, hk.trans ht⟩
theorem Bx.below (h : Bx W g cs) (hb : Below W.heap.size W W') : Bx W' g cs := h.keep (hb.block g h.lt)
theorem Bx.drew (h : Bx W g cs) : Bx W.drew g cs := h.keep rfl
theorem Bx.drewN (h : Bx W g cs) (n : Nat) : Bx (W.drewN n) g cs := h.keep rfl
theorem Bx.alloc (h : Bx W g cs) (o : Obj) : Bx (W.alloc o) g cs := h.keep (Below.heap_alloc W o g h.lt)
theorem Bx.grown {row : Option Nat} (h : Bx W g cs) (hg : W.grownBy W' row) (hr : row ≠ some g) : Bx W' g cs := h.keep (hg.block g h.lt (fun e => hr e.symm))
theorem Bx.far (h : Bx W g cs) {p : Addr} (hp : g ≠ p.block) (v : Value) : Bx (W.setCell p v) g cs := h.keep (Below.heap_setCell W p v g hp)
theorem Bx.set (h : Bx W g cs) (i : Nat) (v : Value) : Bx (W.setCell ⟨g, i, none⟩ v) g (cs.setIfInBounds i v) := by
 obtain ⟨t, ht⟩ := h.hp
 exact ⟨t, by simp [World.setCell, Array.getElem?_modify, ht]⟩
theorem Bx.new (W : World) (cs : Array Value) (t : TypeId) {g : Nat} (hg : g = W.heap.size) : Bx (W.alloc (.cells cs t)) g cs := by
 subst hg
 exact ⟨t, heap_alloc_new W _⟩
end

theorem own_le {w : World} {base : Nat} {e : TypeId} {size n c : Nat} {A : Option Addr} {xs : List Value} (h : w.ownsRow base e size (.slice A n c) n xs) : n ≤ c := by
 obtain ⟨A', c', e1, h2, _⟩ := own_form h
 injection e1 with _ _ e1
 omega
theorem own_below {w w' : World} {B e size n : Nat} {v : Value} {xs : List Value} (h : w.ownsRow B e size v n xs) (hb : Below w.heap.size w w') : w'.ownsRow B e size v n xs :=
 h.kept (row := none) ⟨hb.os, hb.tape, hb.output, hb.size, fun k hk _ => hb.block k hk⟩ (by cases v.ownBlock <;> simp)

theorem Rd.plain {w : World} {ok : Nat → Prop} {size n : Nat} {A : Option Addr} {xs : List Value} (h : Rd w ok size A n xs) (hn : 0 < n) (hs : 0 < size) : ∃ b o, A = some ⟨b, o, none⟩ ∧ ok b ∧ b < w.heap.size ∧ ∀ j u, xs[j]? = some u → w.cell? ⟨b, o + j, none⟩ = some u := by
 obtain ⟨ad, e, hb, hc⟩ := h.2 hn
 obtain ⟨b, o, sp⟩ := ad
 have hpos : 0 < n * size := Nat.mul_pos hn hs
 have hl : 0 < xs.length := by rw [h.1]; exact hpos
 have h0 := hc 0 _ (List.getElem?_eq_getElem hl)
 have e0 : (⟨b, o, sp⟩ : Addr).add 0 = ⟨b, o, sp⟩ := rfl
 rw [e0] at h0
 have hs : sp = none := World.cell?_spot h0
 subst hs
 refine ⟨b, o, e, hb, World.block_lt_of_cell? w _ h0, fun j u hu => ?_⟩
 have := hc j u hu
 unfold Addr.add at this
 split at this
 ·rename_i hj; subst hj; exact this
 ·exact this

def YesPost (W : World) (e : Ending) (w' : World) : Prop := e = .returned (.bool true) ∧ Below W.heap.size W w'

section
variable {P : Program} (t : TypeId) {e : TypeId} {size : Nat} (ht : P.underlying t = some (.slice e)) (hz : (P.info? e).map (·.size) = some size) (a : Option Addr) (n c : Nat) (w : World)
include ht hz
theorem sizeOf_elem : (sizeOf (P.elem t)).run P w = .ok size w := by
 have he : P.elem t = e := by unfold Program.elem; rw [ht]
 obtain ⟨i, hi, rfl⟩ := Option.map_eq_some_iff.1 hz
 rw [he]
 simp [sizeOf, typeInfo, hi]
omit hz in
theorem elem_of : P.underlying t = some (.slice (P.elem t)) := by
 have he : P.elem t = e := by unfold Program.elem; rw [ht]
 rw [he]; exact ht
theorem run_slice_lo (l : Nat) (h1 : l ≤ n) : (Instr.sliceAt t (.slice a n c) (some (.int .i64 (l : Int))) none none).run P w = .ok (.slice (if c = l then a else a.map (·.add (l * size))) (n - l) (c - l)) w := by
 have ht' := elem_of t ht
 rw [run_sliceAt_slice (P := P) (w := w) t _ _ _ _ ht', run_slice_l (P := P) (w := w) (t := t) (a := a) (len := n) (cap := c) ht' .i64 _ (by omega) (by omega), sizeOf_elem t ht hz]
 simp [sliced]
theorem run_slice_lohi (l h : Nat) (h1 : l ≤ h) (h2 : h ≤ c) : (Instr.sliceAt t (.slice a n c) (some (.int .i64 (l : Int))) (some (.int .i64 (h : Int))) none).run P w = .ok (.slice (if c = l then a else a.map (·.add (l * size))) (h - l) (c - l)) w := by
 have ht' := elem_of t ht
 rw [run_sliceAt_slice (P := P) (w := w) t _ _ _ _ ht', run_slice_lh (P := P) (w := w) (t := t) (a := a) (len := n) (cap := c) ht' .i64 .i64 _ _ (by omega) (by omega) (by omega), sizeOf_elem t ht hz]
 simp [sliced]
end
end Go.Proofs.YtmhaahcbmdhinaaGreatDoor
namespace Go.Proofs.YtmhaahcbmdhinaaGreatDoor
open Go.ChangeShapes Go.WideShapes Go.ChangeAt Go.RowKit Go.Joins Go.Deep
set_option linter.unusedVariables false
set_option linter.unusedSimpArgs false
section
variable {H : Type} {enc : TypeId × Value → H} {P : Program} {w : World} {base : Nat} {spare : Nat → Bool} {held : Bool} {fuel : Nat} {x : DataW H × List MemPlace} {t e : TypeId}
end
theorem three {l : List Int} (h : l.length = 3) : ∃ a b c, l = [a, b, c] := by
 match l, h with
 | [a, b, c], _ => exact ⟨a, b, c, rfl⟩
theorem two {l : List Int} (h : l.length = 2) : ∃ a b, l = [a, b] := by
 match l, h with
 | [a, b], _ => exact ⟨a, b, rfl⟩
theorem Bx.c3 {W : World} {g : Nat} {a b c : Value} (h : Bx W g #[a, b, c]) : W.cell? ⟨g, 0, none⟩ = some a ∧ W.cell? ⟨g, 1, none⟩ = some b ∧ W.cell? ⟨g, 2, none⟩ = some c ∧ W.frozen? ⟨g, 0, none⟩ = false ∧ W.frozen? ⟨g, 1, none⟩ = false ∧ W.frozen? ⟨g, 2, none⟩ = false := ⟨h.c 0, h.c 1, h.c 2, h.f 0, h.f 1, h.f 2⟩
theorem Bx.c4 {W : World} {g : Nat} {a b c d : Value} (h : Bx W g #[a, b, c, d]) : W.cell? ⟨g, 0, none⟩ = some a ∧ W.cell? ⟨g, 1, none⟩ = some b ∧ W.cell? ⟨g, 2, none⟩ = some c ∧ W.cell? ⟨g, 3, none⟩ = some d ∧ W.frozen? ⟨g, 0, none⟩ = false ∧ W.frozen? ⟨g, 1, none⟩ = false ∧ W.frozen? ⟨g, 2, none⟩ = false ∧ W.frozen? ⟨g, 3, none⟩ = false := ⟨h.c 0, h.c 1, h.c 2, h.c 3, h.f 0, h.f 1, h.f 2, h.f 3⟩
def flat {α : Type} (enc : α → List Value) (l : List α) : List Value := l.flatMap enc
section
variable {α : Type} {enc : α → List Value} {k : Nat} (hk : ∀ x, (enc x).length = k)
theorem flat_cons (x : α) (l : List α) : flat enc (x :: l) = enc x ++ flat enc l := rfl
theorem flat_append (a b : List α) : flat enc (a ++ b) = flat enc a ++ flat enc b := by simp [flat]
theorem flat_one (x : α) : flat enc [x] = enc x := by simp [flat]
include hk
theorem flat_length (l : List α) : (flat enc l).length = l.length * k := by
 induction l with
 | nil => simp [flat]
 | cons x l ih => rw [flat_cons, List.length_append, hk, ih, List.length_cons, Nat.succ_mul, Nat.add_comm]
theorem flat_take (l : List α) (i : Nat) : flat enc (l.take i) = (flat enc l).take (i * k) := by
 induction l generalizing i with
 | nil => simp [flat]
 | cons x l ih =>
  cases i with
  | zero => simp [flat]
  | succ i =>
   have e : (i + 1) * k = (enc x).length + i * k := by rw [hk, Nat.succ_mul, Nat.add_comm]
   rw [List.take_succ_cons, flat_cons, flat_cons, ih, e, List.take_length_add_append]
theorem flat_drop (l : List α) (i : Nat) : flat enc (l.drop i) = (flat enc l).drop (i * k) := by
 induction l generalizing i with
 | nil => simp [flat]
 | cons x l ih =>
  cases i with
  | zero => simp [flat]
  | succ i =>
   have e : (i + 1) * k = (enc x).length + i * k := by rw [hk, Nat.succ_mul, Nat.add_comm]
   rw [List.drop_succ_cons, flat_cons, ih, e, List.drop_length_add_append]
theorem flat_get {l : List α} {i j : Nat} {x : α} (hx : l[i]? = some x) (hj : j < k) : (flat enc l)[i * k + j]? = (enc x)[j]? := by
 have hi : i < l.length := (List.getElem?_eq_some_iff.1 hx).1
 have e : l = l.take i ++ x :: l.drop (i + 1) := by
  rw [← (List.getElem?_eq_some_iff.1 hx).2, List.getElem_cons_drop, List.take_append_drop]
 conv => lhs; rw [e]
 rw [flat_append, flat_cons, List.getElem?_append_right (by rw [flat_length hk, List.length_take]; have := Nat.mul_le_mul_right k (Nat.min_le_left i l.length); omega)]
 have hm : min i l.length = i := by omega
 rw [flat_length hk, List.length_take, hm, Nat.add_sub_cancel_left, List.getElem?_append_left (by rw [hk]; exact hj)]
end
def ii (r : List Int) : List Value := r.map (Value.int .i64)
section
variable {w w' : World} {ok : Nat → Prop} {n : Nat} {A : Option Addr}
theorem Rd.flen {α : Type} {enc : α → List Value} {k : Nat} {l : List α} (hk : ∀ x, (enc x).length = k) (h0 : 0 < k) (h : Rd w ok k A n (flat enc l)) : l.length = n := by
 have := h.1
 rw [flat_length hk] at this
 exact Nat.eq_of_mul_eq_mul_right h0 this
theorem Rd.fat {α : Type} {enc : α → List Value} {k : Nat} {l : List α} (hk : ∀ x, (enc x).length = k) (h0 : 0 < k) (h : Rd w ok k A n (flat enc l)) {i : Nat} (hi : i < n) : ∃ b o x, A = some ⟨b, o, none⟩ ∧ ok b ∧ b < w.heap.size ∧ l[i]? = some x ∧ ∀ j u, (enc x)[j]? = some u → w.cell? ⟨b, o + (i * k + j), none⟩ = some u := by
 obtain ⟨b, o, e, hb, hlt, hc⟩ := h.plain (by omega) h0
 have hl := h.flen hk h0
 refine ⟨b, o, l[i]'(by omega), e, hb, hlt, List.getElem?_eq_getElem (by omega), fun j u hu => ?_⟩
 have hj : j < k := by rw [← hk (l[i]'(by omega))]; exact (List.getElem?_eq_some_iff.1 hu).1
 refine hc (i * k + j) u ?_
 rw [flat_get hk (List.getElem?_eq_getElem (by omega)) hj]
 exact hu
end
theorem ints4 {P : Program} {a b c d : Field} (ha : P.underlying a.type = some (.int .i64)) (hb : P.underlying b.type = some (.int .i64)) (hc : P.underlying c.type = some (.int .i64)) (hd : P.underlying d.type = some (.int .i64)) :
  ∀ (j : Nat) (f : Field), (#[a, b, c, d] : Array Field)[j]? = some f → P.underlying f.type = some (.int .i64) := by
 intro j f hj
 have hm := Array.mem_of_getElem? hj
 simp only [List.mem_toArray, List.mem_cons, List.not_mem_nil, or_false] at hm
 rcases hm with rfl | rfl | rfl | rfl <;> assumption
theorem rd_of_key {w : World} {A : Option Addr} {n k : Nat} (hpos : 0 < k) (key : ∀ i, i < n → ∃ r : List Int, r.length = k ∧ (∀ z ∈ r, I64 z) ∧ ∃ b o, A = some ⟨b, o, none⟩ ∧ ∀ j u, (ii r)[j]? = some u → w.cell? ⟨b, o + i * k + j, none⟩ = some u) :
  ∃ L : List (List Int), Rd w T k A n (flat ii L) ∧ L.length = n ∧ (∀ r ∈ L, r.length = k ∧ ∀ z ∈ r, I64 z) := by
 have all : ∀ m, m ≤ n → ∃ L : List (List Int), L.length = m ∧ (∀ r ∈ L, r.length = k ∧ ∀ z ∈ r, I64 z) ∧ ∀ i r, L[i]? = some r → ∃ b o, A = some ⟨b, o, none⟩ ∧ ∀ j u, (ii r)[j]? = some u → w.cell? ⟨b, o + i * k + j, none⟩ = some u := by
  intro m
  induction m with
  | zero => exact fun _ => ⟨[], rfl, by simp, by simp⟩
  | succ m ih =>
   intro hm
   obtain ⟨L, hl, h1, h2⟩ := ih (by omega)
   obtain ⟨r, hr1, hr2, hr3⟩ := key m (by omega)
   refine ⟨L ++ [r], by simp [hl], ?_, ?_⟩
   ·intro r' hr'
    rcases List.mem_append.1 hr' with h' | h'
    ·exact h1 r' h'
    ·obtain rfl := List.mem_singleton.1 h'
     exact ⟨hr1, hr2⟩
   ·intro i r' hi
    by_cases hlt : i < L.length
    ·rw [List.getElem?_append_left hlt] at hi
     exact h2 i r' hi
    ·rw [List.getElem?_append_right (by omega)] at hi
     have e0 : i - L.length = 0 := by
      rcases Nat.eq_zero_or_pos (i - L.length) with h' | h'
      ·exact h'
      ·rw [List.getElem?_eq_none (by simp; omega)] at hi
       cases hi
     rw [e0] at hi
     obtain rfl := Option.some.inj hi
     obtain rfl : i = m := by omega
     exact hr3
 obtain ⟨L, hL, hL1, hL2⟩ := all n (Nat.le_refl n)
 have hlen : (flat ii L).length = n * k := by
  have : ∀ L : List (List Int), (∀ r ∈ L, r.length = k) → (flat ii L).length = L.length * k := by
   intro L
   induction L with
   | nil => intro _; simp [flat]
   | cons r L ih =>
    intro h
    rw [flat_cons, List.length_append, ih (fun r' hr' => h r' (by simp [hr'])), List.length_cons, Nat.succ_mul, Nat.add_comm]
    simp [ii, h r (by simp)]
  rw [this L (fun r hr => (hL1 r hr).1), hL]
 refine ⟨L, ⟨hlen, fun hn => ?_⟩, hL, hL1⟩
 obtain ⟨r0, _, _, b, o, hA, _⟩ := key 0 hn
 refine ⟨_, hA, trivial, fun j u hu => ?_⟩
 have hjl : j < n * k := by rw [← hlen]; exact (List.getElem?_eq_some_iff.1 hu).1
 have hq : j / k < n := (Nat.div_lt_iff_lt_mul hpos).2 hjl
 have hdm : j = (j / k) * k + j % k := by rw [Nat.mul_comm]; exact (Nat.div_add_mod j k).symm
 have hget : ∀ (L : List (List Int)), (∀ r ∈ L, r.length = k) → ∀ i m, i < L.length → m < k → (flat ii L)[i * k + m]? = (ii (L.getD i []))[m]? := by
  intro L
  induction L with
  | nil => intro _ i m hi; simp at hi
  | cons r L ih =>
   intro h i m hi hm
   have hr : (ii r).length = k := by simp [ii, h r (by simp)]
   cases i with
   | zero =>
    rw [flat_cons, Nat.zero_mul, Nat.zero_add, List.getElem?_append_left (by omega)]
    rfl
   | succ i =>
    rw [flat_cons, List.getElem?_append_right (by rw [hr, Nat.succ_mul]; omega), hr, show (i + 1) * k + m - k = i * k + m from by rw [Nat.succ_mul]; omega]
    exact ih (fun r' hr' => h r' (by simp [hr'])) i m (by simpa using hi) hm
 rw [hdm, hget L (fun r hr => (hL1 r hr).1) _ _ (by omega) (Nat.mod_lt _ hpos)] at hu
 obtain ⟨b', o', hA', hc⟩ := hL2 (j / k) (L.getD (j / k) []) (by rw [List.getD_eq_getElem?_getD, List.getElem?_eq_getElem (by omega)]; rfl)
 rw [hA] at hA'
 injection hA' with hA'
 injection hA' with e1 e2 _
 subst e1 e2
 have := hc _ u hu
 rw [Nat.add_assoc, ← hdm] at this
 have hadd : (⟨b, o, none⟩ : Addr).add j = ⟨b, o + j, none⟩ := by
  unfold Addr.add
  split
  ·rename_i h0; rw [h0, Nat.add_zero]
  ·rfl
 rw [hadd]
 exact this
section
variable {H : Type} {enc : TypeId × Value → H} {P : Program} {w : World} {base : Nat} {spare : Nat → Bool} {held : Bool} {fuel : Nat} {v : Value} {x : DataW H × List MemPlace} {t e : TypeId}
theorem in_flat {fs : Array Field} (ht : P.underlying t = some (.slice e)) (he : P.underlying e = some (.struct fs)) (hone : oneCellFields P fs = true) (hC : P.cellsOf e = fs.size) (hpos : 0 < fs.size)
  (hint : ∀ (j : Nat) (f : Field), fs[j]? = some f → P.underlying f.type = some (.int .i64)) (h : DataW.trod enc P w base spare held fuel t [v] = some x) :
  ∃ A n c, ∃ L : List (List Int), v = .slice A n c ∧ Rd w T fs.size A n (flat ii L) ∧ L.length = n ∧ n ≤ c ∧ c ≤ maxLen ∧ (A = none → n = 0 ∧ c = 0) ∧ (∀ r ∈ L, r.length = fs.size ∧ ∀ z ∈ r, I64 z) := by
 obtain ⟨A, n, c, hv, hnc, hcm, haz, hrow⟩ := in_rows ht he hone hC hpos h
 have key : ∀ i, i < n → ∃ r : List Int, r.length = fs.size ∧ (∀ z ∈ r, I64 z) ∧ ∃ b o, A = some ⟨b, o, none⟩ ∧ ∀ j u, (ii r)[j]? = some u → w.cell? ⟨b, o + i * fs.size + j, none⟩ = some u := by
  intro i hi
  obtain ⟨b, o, cs, m, hA, hl, hc, hf⟩ := hrow i hi
  have hz : ∀ j, j < fs.size → ∃ z, cs[j]? = some (.int .i64 z) ∧ I64 z := by
   intro j hj
   obtain ⟨u, y, hu, ht'⟩ := hf j _ (Array.getElem?_eq_getElem hj)
   obtain ⟨z, rfl, wz⟩ := in_int (hint j _ (Array.getElem?_eq_getElem hj)) ht'
   exact ⟨z, hu, i64_of_wf wz⟩
  have hex : ∃ r : List Int, cs = ii r ∧ ∀ z ∈ r, I64 z := by
   refine ⟨cs.map fun | .int _ z => z | _ => 0, ?_, ?_⟩
   ·apply List.ext_getElem
    ·simp [ii]
    ·intro j h1 h2
     obtain ⟨z, hz1, _⟩ := hz j (by omega)
     rw [List.getElem?_eq_getElem h1] at hz1
     simp only [ii, List.getElem_map]
     rw [Option.some.inj hz1]
   ·intro z hzm
    obtain ⟨u, hu, rfl⟩ := List.mem_map.1 hzm
    obtain ⟨j, hj, rfl⟩ := List.mem_iff_getElem.1 hu
    obtain ⟨z, hz1, hz2⟩ := hz j (by omega)
    rw [List.getElem?_eq_getElem hj] at hz1
    rw [Option.some.inj hz1]
    exact hz2
  obtain ⟨r, rfl, hr⟩ := hex
  exact ⟨r, by simpa [ii] using hl, hr, b, o, hA, hc⟩
 obtain ⟨L, h1, h2, h3⟩ := rd_of_key hpos key
 exact ⟨A, n, c, L, hv, h1, h2, hnc, hcm, haz, h3⟩
end
end Go.Proofs.YtmhaahcbmdhinaaGreatDoor
namespace Go.Proofs.YtmhaahcbmdhinaaGreatDoor
set_option linter.unusedVariables false
set_option linter.unusedSimpArgs false
def incr : Int → List Int → Bool
 | _, [] => true
 | a, x :: l => decide (a < x) && decide (x ≤ 64) && incr x l
def cmay (c : List Int) : Bool := incr 0 c && decide (1 ≤ c.length) && decide (c.length ≤ 7)
def cnt (s c : List Int) : Nat := (c.filter fun x => decide (x ∈ s)).length
def quor (c s : List Int) : Bool := cmay c && decide (c.length < 2 * cnt s c)
def apart (a b : List Int) : Nat := (a.filter fun x => !decide (x ∈ b)).length
def near (a b : List Int) : Bool := cmay a && cmay b && decide (apart a b + apart b a ≤ 1)
structure Mk where
 m : Int
 n : Int
def reach (l : List Mk) (who : Int) : Int := l.foldl (fun n x => if x.m = who then max n x.n else n) 0
def reaches (l : List Mk) (c : List Int) : List Int := c.map (reach l)
def srt (l : List Int) : List Int := l.mergeSort fun x y => decide (x ≤ y)
def agreed (c : List Int) (l : List Mk) : Int := if cmay c then (srt (reaches l c)).getD ((c.length - 1) / 2) 0 else 0
theorem incr_lt {a : Int} {c : List Int} (h : incr a c = true) : ∀ x ∈ c, a < x ∧ x ≤ 64 := by
 induction c generalizing a with
 | nil => simp
 | cons y c ih =>
  simp only [incr, Bool.and_eq_true, decide_eq_true_eq] at h
  intro x hx
  rcases List.mem_cons.1 hx with rfl | hx
  ·exact h.1
  ·have := ih h.2 x hx
   omega
theorem incr_pairwise {a : Int} {c : List Int} (h : incr a c = true) : c.Pairwise (· < ·) := by
 induction c generalizing a with
 | nil => simp
 | cons y c ih =>
  simp only [incr, Bool.and_eq_true, decide_eq_true_eq] at h
  rw [List.pairwise_cons]
  exact ⟨fun x hx => (incr_lt h.2 x hx).1, ih h.2⟩
theorem incr_of {a : Int} {c : List Int} (h1 : ∀ x ∈ c, a < x ∧ x ≤ 64) (h2 : c.Pairwise (· < ·)) : incr a c = true := by
 induction c generalizing a with
 | nil => rfl
 | cons y c ih =>
  rw [List.pairwise_cons] at h2
  simp only [incr, Bool.and_eq_true, decide_eq_true_eq]
  refine ⟨h1 y (by simp), ih (fun x hx => ⟨h2.1 x hx, (h1 x (by simp [hx])).2⟩) h2.2⟩
theorem cmay_iff {c : List Int} : cmay c = true ↔ (∀ x ∈ c, 0 < x ∧ x ≤ 64) ∧ c.Pairwise (· < ·) ∧ 1 ≤ c.length ∧ c.length ≤ 7 := by
 unfold cmay
 simp only [Bool.and_eq_true, decide_eq_true_eq]
 constructor
 ·rintro ⟨⟨h1, h2⟩, h3⟩
  exact ⟨incr_lt h1, incr_pairwise h1, h2, h3⟩
 ·rintro ⟨h1, h2, h3, h4⟩
  exact ⟨⟨incr_of h1 h2, h3⟩, h4⟩
/-! ### two majorities -/
theorem nodup_le {a b : List Int} (ha : a.Pairwise (· < ·)) (h : ∀ z ∈ a, z ∈ b) : a.length ≤ b.length := by
 induction a generalizing b with
 | nil => simp
 | cons x a ih =>
  rw [List.pairwise_cons] at ha
  have hx : x ∈ b := h x (by simp)
  have h2 : ∀ z ∈ a, z ∈ b.erase x := by
   intro z hz
   have hne : z ≠ x := by have := ha.1 z hz; omega
   exact (List.mem_erase_of_ne hne).2 (h z (by simp [hz]))
  have h3 := ih ha.2 h2
  rw [List.length_erase_of_mem hx] at h3
  have := List.length_pos_of_mem hx
  simp only [List.length_cons]
  omega
theorem two_filters (l : List Int) (p q : Int → Bool) (h : ∀ z ∈ l, ¬ (p z = true ∧ q z = true)) : (l.filter p).length + (l.filter q).length ≤ l.length := by
 induction l with
 | nil => simp
 | cons x l ih =>
  have h1 := ih fun z hz => h z (by simp [hz])
  have h2 := h x (by simp)
  rw [List.filter_cons, List.filter_cons]
  rcases hp : p x with _ | _ <;> rcases hq : q x with _ | _ <;> simp [hp, hq] at h2 ⊢ <;> omega
theorem cnt_sub {s x y : List Int} (hx : x.Pairwise (· < ·)) (h : ∀ z ∈ x, z ∈ y) : cnt s x ≤ (y.filter fun z => decide (z ∈ s) && decide (z ∈ x)).length := by
 unfold cnt
 refine nodup_le (hx.filter _) fun z hz => ?_
 rw [List.mem_filter] at hz ⊢
 exact ⟨h z hz.1, by simp only [Bool.and_eq_true, decide_eq_true_eq]; exact ⟨by simpa using hz.2, hz.1⟩⟩
theorem meet {x y s o : List Int} (hx : x.Pairwise (· < ·)) (hy : y.Pairwise (· < ·)) (h1 : x.length < 2 * cnt s x) (h2 : y.length < 2 * cnt o y)
  (hxy : ((∀ z ∈ x, z ∈ y) ∧ y.length ≤ x.length + 1) ∨ ((∀ z ∈ y, z ∈ x) ∧ x.length ≤ y.length + 1)) : ∃ z ∈ s, z ∈ x ∧ z ∈ y ∧ z ∈ o := by
 apply Classical.byContradiction
 intro hno
 have hno' : ∀ z, z ∈ s → z ∈ x → z ∈ y → z ∈ o → False := fun z a b c d => hno ⟨z, a, b, c, d⟩
 rcases hxy with ⟨h3, h4⟩ | ⟨h3, h4⟩
 ·have h5 := cnt_sub (s := s) hx h3
  have h6 := two_filters y (fun z => decide (z ∈ s) && decide (z ∈ x)) (fun z => decide (z ∈ o)) (by
   rintro z hz ⟨ha, hb⟩
   simp only [Bool.and_eq_true, decide_eq_true_eq] at ha hb
   exact hno' z ha.1 ha.2 hz hb)
  unfold cnt at h2
  omega
 ·have h5 := cnt_sub (s := o) hy h3
  have h6 := two_filters x (fun z => decide (z ∈ s)) (fun z => decide (z ∈ o) && decide (z ∈ y)) (by
   rintro z hz ⟨ha, hb⟩
   simp only [Bool.and_eq_true, decide_eq_true_eq] at ha hb
   exact hno' z ha hz hb.2 hb.1)
  unfold cnt at h1
  omega
/-! ### one more, one less -/
def low (z : Int) (c : List Int) : Nat := (c.takeWhile fun x => decide (x < z)).length
def ins (z : Int) (c : List Int) : List Int := c.take (low z c) ++ z :: c.drop (low z c)
def del (z : Int) (c : List Int) : List Int := c.filter fun x => !decide (x = z)
theorem low_le (z : Int) (c : List Int) : low z c ≤ c.length := by
 unfold low
 exact (List.takeWhile_sublist _).length_le
theorem take_low (z : Int) (c : List Int) : c.take (low z c) = c.takeWhile fun x => decide (x < z) := by
 unfold low
 induction c with
 | nil => rfl
 | cons x c ih =>
  rw [List.takeWhile_cons]
  split
  ·rw [List.length_cons, List.take_succ_cons, ih]
  ·rfl
theorem drop_low (z : Int) (c : List Int) : c.drop (low z c) = c.dropWhile fun x => decide (x < z) := by
 unfold low
 induction c with
 | nil => rfl
 | cons x c ih =>
  rw [List.takeWhile_cons, List.dropWhile_cons]
  split
  ·rw [List.length_cons, List.drop_succ_cons, ih]
  ·rfl
theorem ins_length (z : Int) (c : List Int) : (ins z c).length = c.length + 1 := by
 unfold ins
 have := low_le z c
 rw [List.length_append, List.length_cons, List.length_take, List.length_drop]
 omega
theorem low_before {z : Int} {c : List Int} : ∀ x ∈ c.take (low z c), x < z := by
 rw [take_low]
 induction c with
 | nil => simp
 | cons y c ih =>
  intro x hx
  rw [List.takeWhile_cons] at hx
  split at hx
  ·rename_i h
   rcases List.mem_cons.1 hx with rfl | hx
   ·simpa using h
   ·exact ih x hx
  ·cases hx
theorem low_after {z : Int} {c : List Int} (hc : c.Pairwise (· < ·)) : ∀ x ∈ c.drop (low z c), z ≤ x := by
 rw [drop_low]
 induction c with
 | nil => simp
 | cons y c ih =>
  rw [List.pairwise_cons] at hc
  rw [List.dropWhile_cons]
  split
  ·exact ih hc.2
  ·rename_i h
   simp only [decide_eq_true_eq] at h
   intro x hx
   rcases List.mem_cons.1 hx with rfl | hx
   ·omega
   ·have := hc.1 x hx
    omega
theorem del_length {z : Int} {c : List Int} (hc : c.Pairwise (· < ·)) (hz : z ∈ c) : (del z c).length + 1 = c.length := by
 induction c with
 | nil => simp at hz
 | cons x c ih =>
  rw [List.pairwise_cons] at hc
  unfold del
  rw [List.filter_cons]
  by_cases hx : x = z
  ·subst hx
   have e : c.filter (fun y => !decide (y = x)) = c := by
    rw [List.filter_eq_self]
    intro y hy
    have := hc.1 y hy
    simp only [Bool.not_eq_true', decide_eq_false_iff_not]
    omega
   simp [e]
  ·have hz' : z ∈ c := by
    rcases List.mem_cons.1 hz with h | h
    ·exact absurd h.symm hx
    ·exact h
   have := ih hc.2 hz'
   unfold del at this
   simp [hx]
   omega
end Go.Proofs.YtmhaahcbmdhinaaGreatDoor
