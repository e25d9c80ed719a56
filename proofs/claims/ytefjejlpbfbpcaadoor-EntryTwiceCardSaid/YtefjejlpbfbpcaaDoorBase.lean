/- Words for memory, over any program: what a slice reads as (Rd), its bytes (bs), append onto a row of the call's own, bytes to string. Some lemmas began as blocks of the kit's page of words to copy (Reads, append_any), turned here to a set of blocks 'ok' in the place of a bound. -/
import Derived.WalkKit
import Derived.WalkSpells
import Derived.Laws.OwnMore
import Derived.Deep.AppendLies
import Derived.Deep.Draws
import Derived.Laws.Rows
import Derived.Laws.IdiomStrings
import Derived.Maps.AppendAt
import Derived.RegionTactic
import Derived.OwnWalk
import Derived.Deep.OwnRows
import Derived.Lib.Hide
import Derived.Deep.QuietTactic
import Derived.BigQuiet
import Derived.Lib.SliceRun
import Derived.Lib.SlBytesConst
namespace Go.Proofs.YtefjejlpbfbpcaaDoor
open Go.RowKit
set_option linter.unusedVariables false
set_option linter.unusedSimpArgs false

theorem block_of_add (a : Addr) (n : Nat) : (a.add n).block = a.block := by unfold Addr.add; split <;> rfl
theorem add_of_add (a : Addr) (i j : Nat) : (a.add i).add j = a.add (i + j) := by
  unfold Addr.add
  by_cases hi : i = 0 <;> by_cases hj : j = 0 <;> simp [hi, hj, Nat.add_assoc]

/-- The slice value '.slice A n c' holds the cells xs ('size' cells an element); its block is one of 'ok'. -/
def Rd (w : World) (ok : Nat → Prop) (size : Nat) (A : Option Addr) (n : Nat) (xs : List Value) : Prop :=
  xs.length = n * size ∧ (0 < n → ∃ ad, A = some ad ∧ ok ad.block ∧ ∀ j u, xs[j]? = some u → w.cell? (ad.add j) = some u)

abbrev T : Nat → Prop := fun _ => True

section
variable {w w' : World} {ok ok' : Nat → Prop} {size n : Nat} {A : Option Addr} {xs : List Value}
theorem Rd.none_ : Rd w ok size A 0 [] := ⟨by simp, fun h => absurd h (by omega)⟩
theorem Rd.len (h : Rd w ok size A n xs) : xs.length = n * size := h.1
theorem Rd.at_ {k : Nat} (h : Rd w ok 1 A n xs) (hk : k < n) : ∃ ad u, A = some ad ∧ ok ad.block ∧ xs[k]? = some u ∧ w.cell? (ad.add k) = some u := by
  obtain ⟨ad, e, hb, hc⟩ := h.2 (by omega)
  have hl : k < xs.length := by have := h.1; omega
  exact ⟨ad, xs[k], e, hb, List.getElem?_eq_getElem hl, hc k _ (List.getElem?_eq_getElem hl)⟩
theorem Rd.atN {k : Nat} (h : Rd w ok size A n xs) (hk : k < n) (hs : 0 < size) : ∃ ad, A = some ad ∧ ok ad.block ∧ ∀ j u, xs[k * size + j]? = some u → w.cell? (ad.add (k * size + j)) = some u := by
  obtain ⟨ad, e, hb, hc⟩ := h.2 (by omega)
  exact ⟨ad, e, hb, fun j u hu => hc _ u hu⟩
theorem Rd.keep (h : Rd w ok size A n xs) (hk : ∀ b, ok b → b < w.heap.size → w'.heap[b]? = w.heap[b]?) : Rd w' ok size A n xs :=
  ⟨h.1, fun hn => by
    obtain ⟨ad, e, hb, hc⟩ := h.2 hn
    refine ⟨ad, e, hb, fun j u hu => ?_⟩
    have h1 := hc j u hu
    have hlt : ad.block < w.heap.size := by
      have h2 := World.block_lt_of_cell? w _ h1
      rwa [block_of_add] at h2
    rw [World.cell?_of_block (w := w)]
    · exact h1
    · rw [block_of_add]; exact hk _ hb hlt⟩
theorem Rd.mono (h : Rd w ok size A n xs) (hm : ∀ b, ok b → ok' b) : Rd w ok' size A n xs :=
  ⟨h.1, fun hn => by obtain ⟨ad, e, hb, hc⟩ := h.2 hn; exact ⟨ad, e, hm _ hb, hc⟩⟩
theorem Rd.any (h : Rd w ok size A n xs) : Rd w T size A n xs := h.mono fun _ _ => trivial
theorem Rd.lt (h : Rd w ok size A n xs) (hs : 0 < size) : Rd w (fun b => ok b ∧ b < w.heap.size) size A n xs :=
  ⟨h.1, fun hn => by
    obtain ⟨ad, e, hb, hc⟩ := h.2 hn
    refine ⟨ad, e, ⟨hb, ?_⟩, hc⟩
    have hpos : 0 < n * size := Nat.mul_pos hn hs
    have hl : 0 < xs.length := by rw [h.1]; exact hpos
    have h2 := World.block_lt_of_cell? w _ (hc 0 _ (List.getElem?_eq_getElem hl))
    rwa [block_of_add] at h2⟩
theorem Rd.below (h : Rd w ok size A n xs) (hb : Below w.heap.size w w') : Rd w' ok size A n xs := h.keep fun b _ hlt => hb.block b hlt
theorem Rd.drew (h : Rd w ok size A n xs) : Rd w.drew ok size A n xs := h
theorem Rd.drewN (h : Rd w ok size A n xs) (k : Nat) : Rd (w.drewN k) ok size A n xs := h
theorem Rd.alloc (h : Rd w ok size A n xs) (o : Obj) : Rd (w.alloc o) ok size A n xs := h.keep fun b _ hlt => Below.heap_alloc w o b hlt
theorem Rd.setCell (h : Rd w ok size A n xs) {p : Addr} (hp : ¬ ok p.block) (u : Value) : Rd (w.setCell p u) ok size A n xs :=
  h.keep fun b hb _ => Below.heap_setCell w p u b (fun e => hp (e ▸ hb))
theorem Rd.grown (h : Rd w ok size A n xs) {row : Option Nat} (hg : w.grownBy w' row) (hr : ∀ g, row = some g → ¬ ok g) : Rd w' ok size A n xs :=
  h.keep fun b hb hlt => hg.block b hlt (fun e => hr b e.symm hb)
theorem Rd.cut (h : Rd w ok size A n xs) {k cap : Nat} (hk : k ≤ n) (hc : n ≤ cap) :
    Rd w ok size (if cap = k then A else A.map (·.add (k * size))) (n - k) (xs.drop (k * size)) := by
  refine ⟨by rw [List.length_drop, h.1, Nat.sub_mul], fun hn => ?_⟩
  obtain ⟨ad, rfl, hb, hcell⟩ := h.2 (by omega)
  rw [if_neg (by omega)]
  refine ⟨ad.add (k * size), rfl, by rw [block_of_add]; exact hb, fun j u hu => ?_⟩
  rw [add_of_add]
  exact hcell _ u (by rw [← hu, List.getElem?_drop])
theorem Rd.take (h : Rd w ok size A n xs) {k : Nat} (hk : k ≤ n) : Rd w ok size A k (xs.take (k * size)) := by
  refine ⟨?_, fun hn => ?_⟩
  · have := Nat.mul_le_mul_right size hk
    rw [List.length_take, h.1]; omega
  · obtain ⟨ad, rfl, hb, hcell⟩ := h.2 (by omega)
    refine ⟨ad, rfl, hb, fun j u hu => hcell j u ?_⟩
    rw [List.getElem?_take] at hu
    split at hu
    · exact hu
    · cases hu
/-- 's[l:h:m]' reads as the elements from l to h. -/
theorem Rd.sub (h : Rd w ok size A n xs) {l k m : Nat} (h1 : l + k ≤ n) (hm : l + k ≤ m) : Rd w ok size (if m = l then A else A.map (·.add (l * size))) k ((xs.drop (l * size)).take (k * size)) := by
  have hle : l * size + k * size ≤ n * size := by rw [← Nat.add_mul]; exact Nat.mul_le_mul_right size h1
  refine ⟨by rw [List.length_take, List.length_drop, h.1]; omega, fun hn => ?_⟩
  obtain ⟨ad, rfl, hb, hcell⟩ := h.2 (by omega)
  rw [if_neg (by omega)]
  refine ⟨ad.add (l * size), rfl, by rw [block_of_add]; exact hb, fun j u hu => ?_⟩
  rw [add_of_add]
  rw [List.getElem?_take] at hu
  split at hu
  · exact hcell _ u (by rw [← hu, List.getElem?_drop])
  · cases hu
theorem Rd.of_own {base : Nat} {e : TypeId} {c : Nat} (h : w.ownsRow base e size (.slice A n c) n xs) : Rd w (base ≤ ·) size A n xs := by
  refine ⟨h.1, fun hn => ?_⟩
  obtain ⟨g, cap, hv, hb, hlt⟩ := h.form hn
  have hA : A = some ⟨g, 0, none⟩ := by injection hv
  subst hA
  exact ⟨_, rfl, hb, h.cells (g := g) rfl⟩
theorem Rd.nil_of_none (h : Rd w ok size none n xs) : n = 0 ∧ xs = [] := by
  have hn : n = 0 := by
    rcases Nat.eq_zero_or_pos n with h0 | h0
    · exact h0
    · obtain ⟨ad, h', _⟩ := h.2 h0
      cases h'
  subst hn
  exact ⟨rfl, List.eq_nil_of_length_eq_zero (by simpa using h.1)⟩
theorem Rd.nil_of_zero (h : Rd w ok size A 0 xs) : xs = [] := List.eq_nil_of_length_eq_zero (by simpa using h.1)
end

/-- A new block, whole. -/
theorem Rd.lit {w : World} {cs : Array Value} {t : TypeId} {fr : Nat × Nat} {k : Nat} (hk : cs.size = k) : Rd (w.alloc (.cells cs t fr)) (w.heap.size ≤ ·) 1 (some ⟨w.heap.size, 0, none⟩) k cs.toList := by
  refine ⟨by simpa using hk, fun _ => ⟨_, rfl, Nat.le_refl _, fun j u hu => ?_⟩⟩
  exact World.news_of_block (heap_alloc_new w _) j u hu
/-- An owned row is a slice value with its length. -/
theorem own_form {w : World} {base : Nat} {e : TypeId} {size n : Nat} {v : Value} {xs : List Value} (h : w.ownsRow base e size v n xs) : ∃ A c, v = .slice A n c ∧ n ≤ c ∧ c ≤ maxLen := by
  rcases h.2 with ⟨rfl, rfl⟩ | ⟨g, cap, cur, rfl, _, _, hnc, hcm, _⟩
  · exact ⟨none, 0, rfl, Nat.le_refl _, by simp [maxLen]⟩
  · exact ⟨some ⟨g, 0, none⟩, cap, rfl, hnc, hcm⟩

theorem own_lt {w : World} {base : Nat} {e : TypeId} {size n m c : Nat} {A : Option Addr} {xs : List Value} (h : w.ownsRow base e size (.slice A n c) m xs) : ∀ g, A.map (·.block) = some g → base ≤ g ∧ g < w.heap.size := by
  intro g hg
  refine h.lt g ?_
  cases A with
  | none => simp at hg
  | some a => simpa [Value.ownBlock] using hg
/-! ### bytes -/
def bs (l : List UInt8) : List Value := l.map fun c => Value.int .u8 (c.toNat : Int)
theorem bs_length (l : List UInt8) : (bs l).length = l.length := by simp [bs]
theorem bs_append (a b : List UInt8) : bs (a ++ b) = bs a ++ bs b := by simp [bs]
theorem bs_drop (l : List UInt8) (k : Nat) : bs (l.drop k) = (bs l).drop k := by simp [bs, List.map_drop]
theorem bs_take (l : List UInt8) (k : Nat) : bs (l.take k) = (bs l).take k := by simp [bs, List.map_take]
theorem bs_nil : bs [] = [] := rfl
theorem bs_one (l : List UInt8) : ∀ u ∈ bs l, u.oneCell' = true := by
  intro u hu
  simp only [bs, List.mem_map] at hu
  obtain ⟨c, _, rfl⟩ := hu
  rfl
theorem bs_get (l : List UInt8) (k : Nat) (h : k < l.length) : (bs l)[k]? = some (.int .u8 (l[k].toNat : Int)) := by simp [bs, h]

section
variable {P : Program} {w : World} {ok : Nat → Prop} {A : Option Addr} {n c : Nat} {l : List UInt8}
theorem Rd.blen (h : Rd w ok 1 A n (bs l)) : l.length = n := by have := h.1; rw [bs_length] at this; omega
theorem Rd.bsub (h : Rd w ok 1 A n (bs l)) {i k m : Nat} (h1 : i + k ≤ n) (hm : i + k ≤ m) : Rd w ok 1 (if m = i then A else A.map (·.add i)) k (bs ((l.drop i).take k)) := by
  have := h.sub h1 hm
  rw [bs_take, bs_drop]
  simpa using this
theorem Rd.byte (h : Rd w ok 1 A n (bs l)) {k : Nat} (hk : k < n) : ∃ ad, A = some ad ∧ ok ad.block ∧ w.cell? (ad.add k) = some (.int .u8 ((l.getD k 0).toNat : Int)) := by
  obtain ⟨ad, u, e, hb, hx, hc⟩ := h.at_ hk
  refine ⟨ad, e, hb, ?_⟩
  have hl := h.blen
  rw [bs_get l k (by omega)] at hx
  rw [hc, ← hx, List.getD_eq_getElem?_getD, List.getElem?_eq_getElem (by omega)]
  rfl
theorem conv_bytes (src dst e : TypeId) (hs : P.underlying src = some (.slice e)) (he : P.underlying e = some (.int .u8)) (hd : P.underlying dst = some .string) (h : Rd w ok 1 A n (bs l)) :
    (convert src dst (.slice A n c)).run P w = .ok (.string ⟨l.toArray⟩) w := by
  have hl := h.blen
  subst hl
  cases A with
  | none =>
    obtain ⟨h0, h1⟩ := h.nil_of_none
    have : l = [] := List.eq_nil_of_length_eq_zero h0
    subst this
    exact run_convert_bytes_nil (P := P) w src e hs he _ c dst hd
  | some a =>
    refine run_convert_bytes_back (P := P) w src dst e a c l hs he hd fun j hj => ?_
    obtain ⟨ad, u, e1, _, hx, hc⟩ := h.at_ (k := j) hj
    injection e1 with e1
    subst e1
    rw [hc, ← hx, bs_get l j hj]
end

/-- 's[l:h:m]'. -/
theorem run_slice3 {P : Program} (t : TypeId) {e : TypeId} {size : Nat} (ht : P.underlying t = some (.slice e)) (hz : (P.info? e).map (·.size) = some size) (a : Option Addr) (n c l h m : Nat) (h1 : l ≤ h) (h2 : h ≤ m) (h3 : m ≤ c) (w : World) :
    (Instr.sliceAt t (.slice a n c) (some (.int .i64 (l : Int))) (some (.int .i64 (h : Int))) (some (.int .i64 (m : Int)))).run P w = .ok (.slice (if m = l then a else a.map (·.add (l * size))) (h - l) (m - l)) w := by
  have he : P.elem t = e := by unfold Program.elem; rw [ht]
  have ht' : P.underlying t = some (.slice (P.elem t)) := by rw [he]; exact ht
  have hsz : (sizeOf (P.elem t)).run P w = .ok size w := by
    obtain ⟨i, hi, rfl⟩ := Option.map_eq_some_iff.1 hz
    rw [he]
    simp [sizeOf, typeInfo, hi]
  rw [run_sliceAt_slice (P := P) (w := w) t _ _ _ _ ht', run_slice_lhm (P := P) (w := w) (t := t) (a := a) (len := n) (cap := c) ht' .i64 .i64 .i64 _ _ _ (by omega) (by omega) (by omega) (by omega), hsz]
  simp [sliced]

/-! ### append onto a row of the call's own -/
section
variable {P : Program} (w : World)

theorem run_append_of_nil (base : Nat) (t ty e : TypeId) (i : TypeInfo) (size : Nat) (ht : P.underlying t = some (.slice e)) (hi : P.info? e = some i)
    (v : Value) (n : Nat) (xs : List Value) (hown : w.ownsRow base e size v n xs) (c : Nat) : (Builtin.append_ #[t, t] ty #[v, .slice none 0 c]).run P w = .ok v w := by
  rcases hown.2 with ⟨rfl, rfl⟩ | ⟨g, cap, cur, rfl, _, _, hnc, _⟩
  · simp [Builtin.append_, run_underlying ht, sizeOf, typeInfo, hi, Builtin.lenOf, Builtin.firstCells]
  · simp [Builtin.append_, run_underlying ht, sizeOf, typeInfo, hi, Builtin.lenOf, Builtin.firstCells, hnc, storeCells]

/-- What a type's row of the table tells: its zero, its cells, its bytes. -/
def Elem (P : Program) (e : TypeId) (z : Value) (size bytes : Nat) : Prop := (P.info? e).map (fun i => (i.zero, i.size, i.bytes)) = some (some z, size, bytes)

theorem run_append_any (base : Nat) (t ty e : TypeId) (z : Value) (size bytes : Nat) (ht : P.underlying t = some (.slice e)) (he : Elem P e z size bytes) (hzs : z.cells.size = size) (hsz : 0 < size)
    (v : Value) (n : Nat) (xs : List Value) (hown : w.ownsRow base e size v n xs)
    (ok : Nat → Prop) (A : Option Addr) (m c : Nat) (news : List Value) (hr : Rd w ok size A m news) (h1 : ∀ u ∈ news, u.oneCell' = true)
    (hbytes : (n + m) * (bytes + 1) ≤ 140737488355328) (hbase : base ≤ w.heap.size) :
    ∃ v' w', (Builtin.append_ #[t, t] ty #[v, .slice A m c]).run P w = .ok v' w' ∧ w'.ownsRow base e size v' (n + m) (xs ++ news) ∧ w.grownBy w' v.ownBlock ∧
      (v'.ownBlock = v.ownBlock ∨ v'.ownBlock = some w.heap.size) := by
  obtain ⟨i, hi, hz, hsize, hby⟩ := info_parts he
  have h63 : n + m ≤ maxLen := by
    have : n + m ≤ (n + m) * (bytes + 1) := Nat.le_mul_of_pos_right _ (by omega)
    simp only [maxLen]; omega
  have hbytes' : (n + m) * bytes ≤ 140737488355328 := Nat.le_trans (Nat.mul_le_mul_left _ (by omega)) hbytes
  rcases A with _ | ad
  · obtain ⟨hm, hn⟩ := hr.nil_of_none
    subst hm hn
    exact ⟨v, w, run_append_of_nil w base t ty e i size ht hi v n xs hown c, by simpa using hown, World.grownBy.refl w _, .inl rfl⟩
  · have hcells : ∀ j u, news[j]? = some u → w.cell? (ad.add j) = some u := by
      intro j u hu
      rcases Nat.eq_zero_or_pos m with h0 | h0
      · subst h0
        rw [hr.nil_of_zero] at hu
        simp at hu
      · obtain ⟨ad', h, _, hc⟩ := hr.2 h0
        injection h with h
        subst h
        exact hc j u hu
    obtain ⟨v', w', hrun, h2, h3, _, h5⟩ := run_append_own_at (P := P) w base t ty e i z size bytes ht hi hz hsize hby hzs hsz v n xs hown ad m c news hr.1 hcells h1 h63 hbytes' hbase
    exact ⟨v', w', hrun, h2, h3, h5⟩

theorem wp_append_any {o : Oper} {a : Act} {K : Act → World → Prop} {Q : Exit → Act → World → Prop} {s x : Operand} {t e : TypeId} {z : Value} {size bytes : Nat}
    (ht : P.underlying t = some (.slice e)) (he : Elem P e z size bytes) (hzs : z.cells.size = size) (hsz : 0 < size)
    (ho : o.op = .call { callee := .builtin .append, args := #[s, x], argTypes := #[t, t] })
    {base : Nat} {A0 : Option Addr} {n c0 : Nat} {xs : List Value} (hs : a.eval s = .slice A0 n c0) (hown : w.ownsRow base e size (.slice A0 n c0) n xs)
    {ok : Nat → Prop} {A : Option Addr} {m c : Nat} {news : List Value} (hx : a.eval x = .slice A m c) (hr : Rd w ok size A m news) (h1 : ∀ u ∈ news, u.oneCell' = true)
    (hbytes : (n + m) * (bytes + 1) ≤ 140737488355328) (hbase : base ≤ w.heap.size) {k : Nat} {ys : List Value} (hk : n + m = k) (hys : xs ++ news = ys)
    (h : ∀ A' c' w', w'.ownsRow base e size (.slice A' k c') k ys → w.grownBy w' (A0.map (·.block)) → (A'.map (·.block) = A0.map (·.block) ∨ A'.map (·.block) = some w.heap.size) → K (a.put o.dst (.slice A' k c')) w') : o.wp P a w K Q := by
  obtain ⟨v', w', hrun, h2, h3, h4⟩ := run_append_any (P := P) w base t o.type e z size bytes ht he hzs hsz _ n xs hown ok A m c news hr h1 hbytes hbase
  obtain ⟨A', c', rfl, _⟩ := own_form h2
  subst hk hys
  unfold Oper.wp execOp
  simp only [ho, resolve, invoke, builtin, Sem.run_bind, Sem.run_pure, Result.andThen_ok, List.map_toArray, List.map_cons, List.map_nil, hs, hx, hrun]
  have e1 : ∀ (B : Option Addr) (p q : Nat), (Value.slice B p q).ownBlock = B.map (·.block) := fun B p q => by cases B <;> rfl
  rw [e1] at h3 h4
  rw [e1] at h4
  exact h A' c' w' h2 h3 h4

theorem wpList_append_any {ops : Array Oper} {rest : List Oper} {o : Oper} {a : Act} {Q : Exit → Act → World → Prop} {s x : Operand} {t e : TypeId} {z : Value} {size bytes : Nat}
    (ht : P.underlying t = some (.slice e)) (he : Elem P e z size bytes) (hzs : z.cells.size = size) (hsz : 0 < size)
    (hgd : o.guard = none) (ho : o.op = .call { callee := .builtin .append, args := #[s, x], argTypes := #[t, t] })
    {base : Nat} {A0 : Option Addr} {n c0 : Nat} {xs : List Value} (hs : a.eval s = .slice A0 n c0) (hown : w.ownsRow base e size (.slice A0 n c0) n xs)
    {ok : Nat → Prop} {A : Option Addr} {m c : Nat} {news : List Value} (hx : a.eval x = .slice A m c) (hr : Rd w ok size A m news) (h1 : ∀ u ∈ news, u.oneCell' = true)
    (hbytes : (n + m) * (bytes + 1) ≤ 140737488355328) (hbase : base ≤ w.heap.size) {k : Nat} {ys : List Value} (hk : n + m = k) (hys : xs ++ news = ys)
    (h : ∀ A' c' w', w'.ownsRow base e size (.slice A' k c') k ys → w.grownBy w' (A0.map (·.block)) → (A'.map (·.block) = A0.map (·.block) ∨ A'.map (·.block) = some w.heap.size) → wpList P ops Q rest (a.put o.dst (.slice A' k c')) w') : wpList P ops Q (o :: rest) a w :=
  wpList_plain hgd fun _ hK => wp_append_any w ht he hzs hsz ho hs hown hx hr h1 hbytes hbase hk hys fun A' c' w' h2 h3 h4 => hK _ _ (h A' c' w' h2 h3 h4)
end

/-- The same as a step of a region that draws its order (go_region_held3, go_region_law). -/
theorem step_append_any {P : Program} (w : World) {ops : Array Oper} {o : Oper} {a : Act} {K : Act → World → Prop} {Q : Exit → Act → World → Prop} {E : Prop} {s x : Operand} {t e : TypeId} {z : Value} {size bytes : Nat}
    (ht : P.underlying t = some (.slice e)) (he : Elem P e z size bytes) (hzs : z.cells.size = size) (hsz : 0 < size)
    (hgd : o.guard = none) (ho : o.op = .call { callee := .builtin .append, args := #[s, x], argTypes := #[t, t] })
    {base : Nat} {A0 : Option Addr} {n c0 : Nat} {xs : List Value} (hs : a.eval s = .slice A0 n c0) (hown : w.ownsRow base e size (.slice A0 n c0) n xs)
    {ok : Nat → Prop} {A : Option Addr} {m c : Nat} {news : List Value} (hx : a.eval x = .slice A m c) (hr : Rd w ok size A m news) (h1 : ∀ u ∈ news, u.oneCell' = true)
    (hbytes : (n + m) * (bytes + 1) ≤ 140737488355328) (hbase : base ≤ w.heap.size) {k : Nat} {ys : List Value} (hk : n + m = k) (hys : xs ++ news = ys)
    (h : ∀ A' c' w', w'.ownsRow base e size (.slice A' k c') k ys → w.grownBy w' (A0.map (·.block)) → (A'.map (·.block) = A0.map (·.block) ∨ A'.map (·.block) = some w.heap.size) → K (a.put o.dst (.slice A' k c')) w') :
    if Region.wanted o (yielded ops a.tmps) = true then Oper.wp P o a w K Q else E := by
  have hw : Region.wanted o (yielded ops a.tmps) = true := by simp [Region.wanted, hgd]
  rw [if_pos hw]
  exact wp_append_any w ht he hzs hsz ho hs hown hx hr h1 hbytes hbase hk hys h

theorem own_nil (w : World) (base : Nat) (e : TypeId) (size : Nat) (c : Nat) (hc : c = 0) : w.ownsRow base e size (.slice none 0 c) 0 [] := by subst hc; exact World.ownsRow_nil w base e size
theorem own_new (w : World) (base : Nat) (e : TypeId) (size : Nat) (hb : base ≤ w.heap.size) : (w.alloc (.cells #[] e)).ownsRow base e size (.slice (some ⟨w.heap.size, 0, none⟩) 0 0) 0 [] :=
  World.ownsRow_made w _ 0 hb (by simp [maxLen]) (by simp)

theorem bcell {W w1 : World} (hb : Below W.heap.size W w1) : (∀ b o, b < W.heap.size → w1.cell? ⟨b, o, none⟩ = W.cell? ⟨b, o, none⟩) ∧ (∀ b o, b < W.heap.size → w1.frozen? ⟨b, o, none⟩ = W.frozen? ⟨b, o, none⟩) :=
  ⟨fun b o h => hb.cell (p := ⟨b, o, none⟩) h, fun b o h => hb.frozen (p := ⟨b, o, none⟩) h⟩

theorem results_tmp4 {fn : Func} {t u v x : Tmp} (h : fn.results = #[.tmp t, .tmp u, .tmp v, .tmp x]) (tmps : Array Value) (P : Program) (w : World) :
    (results fn tmps).run P w = .ok (.tuple #[tmps.getD t undef, tmps.getD u undef, tmps.getD v undef, tmps.getD x undef]) w := by simp [results, h]

theorem below_drewN {B : Nat} {a w : World} (h : Below B a w) (n : Nat) : Below B a (w.drewN n) := ⟨h.os, h.tape, h.output, h.size, h.block⟩

theorem isSome_setCell {w : World} {a p : Addr} {v : Value} (h : (w.cell? a).isSome = true) : ((w.setCell p v).cell? a).isSome = true := by
  by_cases e : a = p
  · subst e; rw [World.cell?_setCell_same' w a v h]; rfl
  · rw [World.cell?_setCell_other w p a v (fun h' => e h'.symm)]; exact h
theorem cell_far {w : World} {b o b' o' : Nat} {v : Value} (h : b ≠ b') : (w.setCell ⟨b', o', none⟩ v).cell? ⟨b, o, none⟩ = w.cell? ⟨b, o, none⟩ :=
  World.cell?_setCell_other w _ _ v (fun e => h (by injection e with e1; exact e1.symm))
theorem frozen_setCell (w : World) (p a : Addr) (v : Value) : (w.setCell p v).frozen? a = w.frozen? a := by simp

/-! ### a function's own result cell: everything that was there in w is as it was, but for block R, which still has its k cells -/
/-- What lies in a cell: a word that the walk does not open. -/
def peek (W : World) (R i : Nat) : Value := (W.cell? ⟨R, i, none⟩).getD undef
structure Fr (w : World) (R k : Nat) (W : World) : Prop where
  gr : w.grownBy W (some R)
  lt : R < w.heap.size
  bx : ∃ (cs : Array Value) (t : TypeId), cs.size = k ∧ W.heap[R]? = some (.cells cs t (0, 0))
section
variable {w W W' : World} {R k : Nat}
theorem Fr.start {cs : Array Value} {t : TypeId} (h : w.heap[R]? = some (.cells cs t (0, 0))) (hk : cs.size = k) : Fr w R k w :=
  ⟨World.grownBy.refl w _, (Array.getElem?_eq_some_iff.1 h).1, cs, t, hk, h⟩
theorem Fr.new {w0 : World} {cs : Array Value} {t : TypeId} (hR : R = w0.heap.size) (hk : cs.size = k) : Fr (w0.alloc (.cells cs t)) R k (w0.alloc (.cells cs t)) := by
  subst hR
  exact Fr.start (heap_alloc_new _ _) hk
theorem Fr.drew (h : Fr w R k W) : Fr w R k W.drew := ⟨⟨h.gr.os, h.gr.tape, h.gr.output, h.gr.size, h.gr.block⟩, h.lt, h.bx⟩
theorem Fr.drewN (h : Fr w R k W) (n : Nat) : Fr w R k (W.drewN n) := ⟨⟨h.gr.os, h.gr.tape, h.gr.output, h.gr.size, h.gr.block⟩, h.lt, h.bx⟩
theorem Fr.below (h : Fr w R k W) (hb : Below W.heap.size W W') : Fr w R k W' := by
  have hs := h.gr.size
  obtain ⟨cs, t, h1, h2⟩ := h.bx
  exact ⟨⟨hb.os.trans h.gr.os, hb.tape.trans h.gr.tape, hb.output.trans h.gr.output, Nat.le_trans h.gr.size hb.size, fun i hi hn => (hb.block i (by omega)).trans (h.gr.block i hi hn)⟩, h.lt,
    cs, t, h1, (hb.block R (by have := h.lt; omega)).trans h2⟩
theorem Fr.alloc (h : Fr w R k W) (o : Obj) : Fr w R k (W.alloc o) := h.below ((Below.refl _ _).alloc (Nat.le_refl _) o)
theorem Fr.set (h : Fr w R k W) (i : Nat) (v : Value) : Fr w R k (W.setCell ⟨R, i, none⟩ v) := by
  obtain ⟨cs, t, h1, h2⟩ := h.bx
  refine ⟨⟨h.gr.os, h.gr.tape, h.gr.output, by simpa [World.setCell] using h.gr.size, fun j hj hn => (Below.heap_setCell W _ v j (fun e => hn (by rw [e]))).trans (h.gr.block j hj hn)⟩, h.lt,
    cs.setIfInBounds i v, t, by simpa using h1, ?_⟩
  simp [World.setCell, Array.getElem?_modify, h2]
theorem Fr.far (h : Fr w R k W) {p : Addr} (hp : w.heap.size ≤ p.block) (v : Value) : Fr w R k (W.setCell p v) := by
  obtain ⟨cs, t, h1, h2⟩ := h.bx
  have hl := h.lt
  exact ⟨⟨h.gr.os, h.gr.tape, h.gr.output, by simpa [World.setCell] using h.gr.size, fun j hj hn => (Below.heap_setCell W p v j (by omega)).trans (h.gr.block j hj hn)⟩, h.lt,
    cs, t, h1, (Below.heap_setCell W p v R (by omega)).trans h2⟩
theorem Fr.grown {row : Option Nat} (h : Fr w R k W) (hg : W.grownBy W' row) (hr : ∀ g, row = some g → w.heap.size ≤ g) : Fr w R k W' := by
  have hs := h.gr.size
  have hl := h.lt
  obtain ⟨cs, t, h1, h2⟩ := h.bx
  exact ⟨⟨hg.os.trans h.gr.os, hg.tape.trans h.gr.tape, hg.output.trans h.gr.output, Nat.le_trans h.gr.size hg.size,
    fun i hi hn => (hg.block i (by omega) (fun e => by have := hr i e.symm; omega)).trans (h.gr.block i hi hn)⟩, h.lt,
    cs, t, h1, (hg.block R (by omega) (fun e => by have := hr R e.symm; omega)).trans h2⟩
theorem Fr.cell (h : Fr w R k W) {g i : Nat} {v : Value} (hg : g ≠ R) (hc : w.cell? ⟨g, i, none⟩ = some v) : W.cell? ⟨g, i, none⟩ = some v := by
  rw [World.cell?_of_block (w := w)]
  · exact hc
  · exact h.gr.block g (World.block_lt_of_cell? w _ hc) (fun e => hg (by injection e))
theorem Fr.is (h : Fr w R k W) {i : Nat} (hi : i < k) : (W.cell? ⟨R, i, none⟩).isSome = true := by
  obtain ⟨cs, t, h1, h2⟩ := h.bx
  rw [cell_of_row W R i cs t (0, 0) h2]
  simp [h1, hi]
theorem Fr.pk (h : Fr w R k W) {i : Nat} (hi : i < k) : W.cell? ⟨R, i, none⟩ = some (peek W R i) := by
  obtain ⟨u, hu⟩ := Option.isSome_iff_exists.1 (h.is hi)
  simp [peek, hu]
theorem Fr.fz (h : Fr w R k W) (i : Nat) : W.frozen? ⟨R, i, none⟩ = false := by
  obtain ⟨cs, t, h1, h2⟩ := h.bx
  simp [World.frozen?, h2]
theorem Fr.to_below (h : Fr w R k W) {B : Nat} (hB : B ≤ R) : Below B w W :=
  ⟨h.gr.os, h.gr.tape, h.gr.output, h.gr.size, fun i hi => h.gr.block i (by have := h.lt; omega) (fun e => by injection e; omega)⟩
theorem Fr.rd {ok : Nat → Prop} {size n : Nat} {A : Option Addr} {xs : List Value} (h : Fr w R k W) (hr : Rd w ok size A n xs) (hok : ¬ ok R) : Rd W ok size A n xs :=
  hr.keep fun b hb hlt => h.gr.block b hlt (fun e => by injection e with e; exact hok (e ▸ hb))
end
end Go.Proofs.YtefjejlpbfbpcaaDoor
