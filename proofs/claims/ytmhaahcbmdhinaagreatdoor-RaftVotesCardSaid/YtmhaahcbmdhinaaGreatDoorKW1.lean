/- Plain law of members and majorities: no program in sight.
   slices.Clone at bytes.
   Rows of three integers and a byte slice (entries, items, acts): cells, and what comes in.
   Plain law of logs of entries: no program in sight.
   Walk of entry.right. (Printed by mkright.py.) -/
import Derived.Test.YtmhaahcbmdhinaaGreatDoorKW0
import Derived.Test.YtmhaahcbmdhinaaGreatDoorRows
import Derived.RegionTactic
import Derived.Deep.LoopGhost
import Derived.Deep.DeepCutAuto
import Derived.BigQuiet
namespace Go.Proofs.YtmhaahcbmdhinaaGreatDoor
set_option linter.unusedVariables false
set_option linter.unusedSimpArgs false
def incr : Int → List Int → Bool
  | _, [] => true
  | a, x :: l => decide (a < x) && decide (x ≤ 64) && incr x l
/-- Whether members may be. -/
def cmay (c : List Int) : Bool := incr 0 c && decide (1 ≤ c.length) && decide (c.length ≤ 7)
/-- How many of c are among s. -/
def cnt (s c : List Int) : Nat := (c.filter fun x => decide (x ∈ s)).length
def quor (c s : List Int) : Bool := cmay c && decide (c.length < 2 * cnt s c)
/-- How many of a are not in b. -/
def apart (a b : List Int) : Nat := (a.filter fun x => !decide (x ∈ b)).length
def near (a b : List Int) : Bool := cmay a && cmay b && decide (apart a b + apart b a ≤ 1)
structure Mk where
  m : Int
  n : Int
/-- How far a member is. -/
def reach (l : List Mk) (who : Int) : Int := l.foldl (fun n x => if x.m = who then max n x.n else n) 0
def reaches (l : List Mk) (c : List Int) : List Int := c.map (reach l)
def srt (l : List Int) : List Int := l.mergeSort fun x y => decide (x ≤ y)
def agreed (c : List Int) (l : List Mk) : Int := if cmay c then (srt (reaches l c)).getD ((c.length - 1) / 2) 0 else 0
def someOf (n : Int) (l : List Mk) : List Int := (l.filter fun x => decide (n ≤ x.n)).map (·.m)
theorem incr_lt {a : Int} {c : List Int} (h : incr a c = true) : ∀ x ∈ c, a < x ∧ x ≤ 64 := by
  induction c generalizing a with
  | nil => simp
  | cons y c ih =>
    simp only [incr, Bool.and_eq_true, decide_eq_true_eq] at h
    intro x hx
    rcases List.mem_cons.1 hx with rfl | hx
    · exact h.1
    · have := ih h.2 x hx
      omega
theorem incr_pairwise {a : Int} {c : List Int} (h : incr a c = true) : c.Pairwise (· < ·) := by
  induction c generalizing a with
  | nil => simp
  | cons y c ih =>
    simp only [incr, Bool.and_eq_true, decide_eq_true_eq] at h
    rw [List.pairwise_cons]
    exact ⟨fun x hx => (incr_lt h.2 x hx).1, ih h.2⟩
theorem incr_of {a : Int} {c : List Int} (h1 : ∀ x ∈ c, a < x ∧ x ≤ 64) (h2 : c.Pairwise (· < ·)) : incr a c = true := by
  induction c generalizing a with
  | nil => rfl
  | cons y c ih =>
    rw [List.pairwise_cons] at h2
    simp only [incr, Bool.and_eq_true, decide_eq_true_eq]
    refine ⟨h1 y (by simp), ih (fun x hx => ⟨h2.1 x hx, (h1 x (by simp [hx])).2⟩) h2.2⟩
theorem cmay_iff {c : List Int} : cmay c = true ↔ (∀ x ∈ c, 0 < x ∧ x ≤ 64) ∧ c.Pairwise (· < ·) ∧ 1 ≤ c.length ∧ c.length ≤ 7 := by
  unfold cmay
  simp only [Bool.and_eq_true, decide_eq_true_eq]
  constructor
  · rintro ⟨⟨h1, h2⟩, h3⟩
    exact ⟨incr_lt h1, incr_pairwise h1, h2, h3⟩
  · rintro ⟨h1, h2, h3, h4⟩
    exact ⟨⟨incr_of h1 h2, h3⟩, h4⟩
/-! ### two majorities -/
theorem nodup_le {a b : List Int} (ha : a.Pairwise (· < ·)) (h : ∀ z ∈ a, z ∈ b) : a.length ≤ b.length := by
  induction a generalizing b with
  | nil => simp
  | cons x a ih =>
    rw [List.pairwise_cons] at ha
    have hx : x ∈ b := h x (by simp)
    have h2 : ∀ z ∈ a, z ∈ b.erase x := by
      intro z hz
      have hne : z ≠ x := by have := ha.1 z hz; omega
      exact (List.mem_erase_of_ne hne).2 (h z (by simp [hz]))
    have h3 := ih ha.2 h2
    rw [List.length_erase_of_mem hx] at h3
    have := List.length_pos_of_mem hx
    simp only [List.length_cons]
    omega
theorem two_filters (l : List Int) (p q : Int → Bool) (h : ∀ z ∈ l, ¬ (p z = true ∧ q z = true)) : (l.filter p).length + (l.filter q).length ≤ l.length := by
  induction l with
  | nil => simp
  | cons x l ih =>
    have h1 := ih fun z hz => h z (by simp [hz])
    have h2 := h x (by simp)
    rw [List.filter_cons, List.filter_cons]
    rcases hp : p x with _ | _ <;> rcases hq : q x with _ | _ <;> simp [hp, hq] at h2 ⊢ <;> omega
theorem cnt_sub {s x y : List Int} (hx : x.Pairwise (· < ·)) (h : ∀ z ∈ x, z ∈ y) : cnt s x ≤ (y.filter fun z => decide (z ∈ s) && decide (z ∈ x)).length := by
  unfold cnt
  refine nodup_le (hx.filter _) fun z hz => ?_
  rw [List.mem_filter] at hz ⊢
  exact ⟨h z hz.1, by simp only [Bool.and_eq_true, decide_eq_true_eq]; exact ⟨by simpa using hz.2, hz.1⟩⟩
theorem meet {x y s o : List Int} (hx : x.Pairwise (· < ·)) (hy : y.Pairwise (· < ·)) (h1 : x.length < 2 * cnt s x) (h2 : y.length < 2 * cnt o y)
    (hxy : ((∀ z ∈ x, z ∈ y) ∧ y.length ≤ x.length + 1) ∨ ((∀ z ∈ y, z ∈ x) ∧ x.length ≤ y.length + 1)) : ∃ z ∈ s, z ∈ x ∧ z ∈ y ∧ z ∈ o := by
  apply Classical.byContradiction
  intro hno
  have hno' : ∀ z, z ∈ s → z ∈ x → z ∈ y → z ∈ o → False := fun z a b c d => hno ⟨z, a, b, c, d⟩
  rcases hxy with ⟨h3, h4⟩ | ⟨h3, h4⟩
  · have h5 := cnt_sub (s := s) hx h3
    have h6 := two_filters y (fun z => decide (z ∈ s) && decide (z ∈ x)) (fun z => decide (z ∈ o)) (by
      rintro z hz ⟨ha, hb⟩
      simp only [Bool.and_eq_true, decide_eq_true_eq] at ha hb
      exact hno' z ha.1 ha.2 hz hb)
    unfold cnt at h2
    omega
  · have h5 := cnt_sub (s := o) hy h3
    have h6 := two_filters x (fun z => decide (z ∈ s)) (fun z => decide (z ∈ o) && decide (z ∈ y)) (by
      rintro z hz ⟨ha, hb⟩
      simp only [Bool.and_eq_true, decide_eq_true_eq] at ha hb
      exact hno' z ha hz hb.2 hb.1)
    unfold cnt at h1
    omega
/-! ### one more, one less -/
def low (z : Int) (c : List Int) : Nat := (c.takeWhile fun x => decide (x < z)).length
def ins (z : Int) (c : List Int) : List Int := c.take (low z c) ++ z :: c.drop (low z c)
def del (z : Int) (c : List Int) : List Int := c.filter fun x => !decide (x = z)
end Go.Proofs.YtmhaahcbmdhinaaGreatDoor

namespace Go.Proofs.YtmhaahcbmdhinaaGreatDoor
open Go.RowKit
set_option linter.unusedVariables false
set_option linter.unusedSimpArgs false
theorem u8_elem : Elem Tryz.prog 5 (.int .u8 0) 1 1 := by unfold Elem; kernel_rfl
theorem eqlB (w : World) (A : Option Addr) (n c : Nat) : (binOp .eql 26 (.slice A n c) (.slice none 0 0)).run Tryz.prog w = .ok (.bool A.isNone) w := Lib.run_eql_slice_nil w 26 5 A n c 0 0 Tryz.underlying26
attribute [local go_sem] eqlB
theorem clone_any (A : Option Addr) (n c : Nat) (xs : List Value) (w : World) {ok : Nat → Prop} (hr : Rd w ok 1 A n xs) (h1 : ∀ u ∈ xs, u.oneCell' = true) (hn : n ≤ 35184372088832) :
    Calls Tryz.prog 98 #[.slice A n c] w fun e w' => ∃ A' c', e = .returned (.slice A' n c') ∧ w'.ownsRow w.heap.size 5 1 (.slice A' n c') n xs ∧ Below w.heap.size w w' := by
  cases A with
  | none =>
    obtain ⟨rfl, rfl⟩ := hr.nil_of_none
    go_enter Tryz.func98, Tryz.ntmps98
    go_wp2_with fail
    go_ret
    exact ⟨_, _, rfl, ⟨by simp, .inl ⟨rfl, rfl⟩⟩, Below.refl _ _⟩
  | some ad =>
    go_enter Tryz.func98, Tryz.ntmps98
    go_wp2_with (at_builtin; refine wpList_append_any _ Tryz.underlying26 u8_elem rfl (by omega) rfl rfl rfl (own_new w w.heap.size 5 1 (Nat.le_refl _)) rfl (hr.alloc _) h1 (by omega) (by simp) (Nat.zero_add _) (List.nil_append _) ?_; intro A1 c1 w1 hown1 hg1 hat1)
    go_ret
    exact ⟨_, _, rfl, hown1, ((Below.refl _ _).alloc (Nat.le_refl _) _).grown hg1 (by simp) (by simp)⟩
end Go.Proofs.YtmhaahcbmdhinaaGreatDoor

namespace Go.Proofs.YtmhaahcbmdhinaaGreatDoor
open Go.ChangeShapes Go.WideShapes Go.ChangeAt Go.RowKit Go.Joins Go.Deep
set_option linter.unusedVariables false
set_option linter.unusedSimpArgs false
theorem rd_of_rows {α : Type} {enc : α → List Value} {k : Nat} (hk : ∀ x, (enc x).length = k) (hpos : 0 < k) {w : World} {A : Option Addr} {n : Nat} (Q : α → Prop)
    (key : ∀ i, i < n → ∃ x : α, Q x ∧ ∃ b o, A = some ⟨b, o, none⟩ ∧ ∀ j u, (enc x)[j]? = some u → w.cell? ⟨b, o + i * k + j, none⟩ = some u) :
    ∃ L : List α, Rd w T k A n (flat enc L) ∧ L.length = n ∧ ∀ x ∈ L, Q x := by
  have all : ∀ m, m ≤ n → ∃ L : List α, L.length = m ∧ (∀ x ∈ L, Q x) ∧ ∀ i x, L[i]? = some x → ∃ b o, A = some ⟨b, o, none⟩ ∧ ∀ j u, (enc x)[j]? = some u → w.cell? ⟨b, o + i * k + j, none⟩ = some u := by
    intro m
    induction m with
    | zero => exact fun _ => ⟨[], rfl, by simp, by simp⟩
    | succ m ih =>
      intro hm
      obtain ⟨L, hl, h1, h2⟩ := ih (by omega)
      obtain ⟨x, hx1, hx2⟩ := key m (by omega)
      refine ⟨L ++ [x], by simp [hl], ?_, ?_⟩
      · intro y hy
        rcases List.mem_append.1 hy with h' | h'
        · exact h1 y h'
        · obtain rfl := List.mem_singleton.1 h'
          exact hx1
      · intro i y hi
        by_cases hlt : i < L.length
        · rw [List.getElem?_append_left hlt] at hi
          exact h2 i y hi
        · rw [List.getElem?_append_right (by omega)] at hi
          have e0 : i - L.length = 0 := by
            rcases Nat.eq_zero_or_pos (i - L.length) with h' | h'
            · exact h'
            · rw [List.getElem?_eq_none (by simp; omega)] at hi
              cases hi
          rw [e0] at hi
          obtain rfl := Option.some.inj hi
          obtain rfl : i = m := by omega
          exact hx2
  obtain ⟨L, hL, hL1, hL2⟩ := all n (Nat.le_refl n)
  have hlen : (flat enc L).length = n * k := by rw [flat_length hk, hL]
  refine ⟨L, ⟨hlen, fun hn => ?_⟩, hL, hL1⟩
  obtain ⟨x0, _, b, o, hA, _⟩ := key 0 hn
  refine ⟨_, hA, trivial, fun j u hu => ?_⟩
  have hjl : j < n * k := by rw [← hlen]; exact (List.getElem?_eq_some_iff.1 hu).1
  have hq : j / k < n := (Nat.div_lt_iff_lt_mul hpos).2 hjl
  have hdm : j = (j / k) * k + j % k := by rw [Nat.mul_comm]; exact (Nat.div_add_mod j k).symm
  have hx := List.getElem?_eq_getElem (l := L) (i := j / k) (by omega)
  rw [hdm, flat_get hk hx (Nat.mod_lt _ hpos)] at hu
  obtain ⟨b', o', hA', hc⟩ := hL2 (j / k) _ hx
  rw [hA] at hA'
  injection hA' with hA'
  injection hA' with e1 e2 _
  subst e1 e2
  have := hc _ u hu
  rw [Nat.add_assoc, ← hdm] at this
  have hadd : (⟨b, o, none⟩ : Addr).add j = ⟨b, o + j, none⟩ := by
    unfold Addr.add
    split
    · rename_i h0; rw [h0, Nat.add_zero]
    · rfl
  rw [hadd]
  exact this
/-- A row: three numbers, and bytes that lie elsewhere. -/
structure Er where
  a : Int
  b : Int
  c : Int
  A : Option Addr
  n : Nat
  m : Nat
  d : List UInt8
def ecell (x : Er) : List Value := [.int .i64 x.a, .int .i64 x.b, .int .i64 x.c, .slice x.A x.n x.m]
theorem ecell_len (x : Er) : (ecell x).length = 4 := rfl
theorem er_cells {w : World} {ok : Nat → Prop} {n : Nat} {A : Option Addr} {l : List Er} (h : Rd w ok 4 A n (flat ecell l)) {j : Nat} (hj : j < n) : ∃ b o x, A = some ⟨b, o, none⟩ ∧ ok b ∧ b < w.heap.size ∧ l[j]? = some x ∧
    w.cell? ⟨b, o + j * 4, none⟩ = some (.int .i64 x.a) ∧ w.cell? ⟨b, o + j * 4 + 1, none⟩ = some (.int .i64 x.b) ∧ w.cell? ⟨b, o + j * 4 + 2, none⟩ = some (.int .i64 x.c) ∧ w.cell? ⟨b, o + j * 4 + 3, none⟩ = some (.slice x.A x.n x.m) := by
  obtain ⟨b, o, x, hA, hb, hlt, hx, hc⟩ := h.fat ecell_len (by omega) hj
  exact ⟨b, o, x, hA, hb, hlt, hx, hc 0 _ rfl, hc 1 _ rfl, hc 2 _ rfl, hc 3 _ rfl⟩
/-- The bytes of the rows can be read. -/
def Dat (w : World) (l : List Er) : Prop := ∀ x ∈ l, Rd w T 1 x.A x.n (bs x.d) ∧ x.n ≤ x.m ∧ x.m ≤ maxLen
theorem Dat.below {w w' : World} {l : List Er} (h : Dat w l) (hb : Below w.heap.size w w') : Dat w' l := fun x hx => ⟨(h x hx).1.below hb, (h x hx).2⟩
def W64 (x : Er) : Prop := I64 x.a ∧ I64 x.b ∧ I64 x.c
end Go.Proofs.YtmhaahcbmdhinaaGreatDoor

namespace Go.Proofs.YtmhaahcbmdhinaaGreatDoor
set_option linter.unusedVariables false
set_option linter.unusedSimpArgs false
/-- An entry's numbers and bytes. -/
structure En where
  a : Int
  b : Int
  c : Int
  d : List UInt8
def en (x : Er) : En := ⟨x.a, x.b, x.c, x.d⟩
/-- Whether an entry can stand at i behind an index and a term. -/
def okE (ix tm : Int) (i : Nat) (e : En) : Bool := decide (1 ≤ e.a) && decide (e.a - i - 1 = ix) && decide (e.a ≤ 1099511627776) && decide (tm ≤ e.b) && decide (1 ≤ e.b) && decide (e.b ≤ 1099511627776) && decide (0 ≤ e.c) && decide (e.c ≤ 2) && decide (e.d.length ≤ 4096)
def rgt (ix : Int) : Int → Nat → List En → Bool
  | _, _, [] => true
  | tm, i, e :: l => okE ix tm i e && rgt ix e.b (i + 1) l
def lmay (b t : Int) (l : List En) : Bool := (decide (b = 0) && decide (t = 0) || decide (1 ≤ b) && decide (b ≤ 1099511627776) && decide (1 ≤ t) && decide (t ≤ 1099511627776)) && decide (l.length ≤ 4096) && rgt b t 0 l
/-- The last entry's index and term. -/
def lstA (b : Int) (l : List En) : Int := (l.getLast?.map (·.a)).getD b
def lstB (t : Int) (l : List En) : Int := (l.getLast?.map (·.b)).getD t
theorem okE_iff {ix tm : Int} {i : Nat} {e : En} : okE ix tm i e = true ↔ 1 ≤ e.a ∧ e.a - i - 1 = ix ∧ e.a ≤ 1099511627776 ∧ tm ≤ e.b ∧ 1 ≤ e.b ∧ e.b ≤ 1099511627776 ∧ 0 ≤ e.c ∧ e.c ≤ 2 ∧ e.d.length ≤ 4096 := by
  unfold okE
  simp only [Bool.and_eq_true, decide_eq_true_eq, and_assoc]
theorem rgt_step {ix tm : Int} {i : Nat} {l : List En} {e : En} (h : l[i]? = some e) : rgt ix tm i (l.drop i) = (okE ix tm i e && rgt ix e.b (i + 1) (l.drop (i + 1))) := by
  obtain ⟨hi, he⟩ := List.getElem?_eq_some_iff.1 h
  rw [List.drop_eq_getElem_cons hi, he]
  rfl
theorem lstA_len {b : Int} {l : List En} (h : 0 < l.length) : ∃ e, l[l.length - 1]? = some e ∧ lstA b l = e.a ∧ ∀ t, lstB t l = e.b := by
  have := List.getLast?_eq_getElem? (l := l)
  rw [List.getElem?_eq_getElem (by omega)] at this
  exact ⟨_, List.getElem?_eq_getElem (by omega), by unfold lstA; rw [this]; rfl, fun t => by unfold lstB; rw [this]; rfl⟩
end Go.Proofs.YtmhaahcbmdhinaaGreatDoor

namespace Go.Proofs.YtmhaahcbmdhinaaGreatDoor
open Go.RowKit
set_option maxRecDepth 100000
set_option linter.unusedVariables false
set_option linter.unusedSimpArgs false
def BoolPost (W : World) (b : Bool) (e : Ending) (w' : World) : Prop := e = .returned (.bool b) ∧ Below W.heap.size W w'
theorem ret_bool {a b : Bool} (h : a = b) : Ending.returned (.bool a) = .returned (.bool b) := by rw [h]
/-- The rows are what the machine can hold. -/
def Wel (L : List Er) : Prop := ∀ x ∈ L, W64 x ∧ x.n = x.d.length
theorem rgt_no {ix tj : Int} {j : Nat} {e : En} {r Q : Bool} (hs : Q = (okE ix tj j e && r)) (h : ¬ okE ix tj j e = true) : Q = false := by
  rw [hs]
  simp only [Bool.not_eq_true] at h
  rw [h, Bool.false_and]
theorem rgt_yes {ix tj : Int} {j : Nat} {e : En} {r Q : Bool} (hs : Q = (okE ix tj j e && r)) (h : okE ix tj j e = true) : r = Q := by
  rw [hs, h, Bool.true_and]
set_option maxHeartbeats 4000000 in
theorem right_any (ix tm : Int) (A : Option Addr) (n c : Nat) (L : List Er) (w : World) {ok : Nat → Prop} (hr : Rd w ok 4 A n (flat ecell L)) (hw : Wel L) (hn : n ≤ 1000000) :
    Calls Tryz.prog 120 #[.int .i64 ix, .int .i64 tm, .slice A n c] w (BoolPost w (rgt ix tm 0 (L.map en))) := by
  have hll := hr.flen ecell_len (by omega)
  obtain ⟨Q, hQ⟩ : ∃ Q, rgt ix tm 0 (L.map en) = Q := ⟨_, rfl⟩
  rw [hQ]
  have HQ := Lib.hid hQ
  have Hll := Lib.hid hll
  have Hw := Lib.hid hw
  clear hQ hll hw
  go_enter Tryz.func120, Tryz.ntmps120
  go_wp2_with fail
  go_loopg [1, 7, 8, 11] n (fun m s1 s7 s8 s11 wr => ∃ (j : Nat) (tj : Int), m = n - j ∧ j ≤ n ∧ s11 = .int .i64 j ∧ s1 = .int .i64 tj ∧ rgt ix tj j ((L.map en).drop j) = Q ∧ Below w.heap.size w wr)
  case atStart => exact ⟨0, tm, by omega, by omega, rfl, rfl, HQ.out, Below.refl _ _⟩
  case round =>
    obtain ⟨j, tj, hm, hj, rfl, rfl, hq, hb⟩ := hrel
    have Hm := Lib.hid hm
    have Hq := Lib.hid hq
    have Hb := Lib.hid hb
    clear hm hq hb
    by_cases hlt : j < n
    · obtain ⟨b, o, x, rfl, _, hbl, hx, c0, c1, c2, c3⟩ := er_cells (hr.below Hb.out) hlt
      have hjI : (j : Int) < n := by omega
      have hwx := Hw.out x (List.mem_of_getElem? hx)
      have hs := rgt_step (ix := ix) (tm := tj) (l := L.map en) (i := j) (e := en x) (by rw [List.getElem?_map, hx]; rfl)
      rw [Hq.out] at hs
      have Hs := Lib.hid hs
      have hxa := hwx.1.1
      have hxn := hwx.2
      have Hxn := Lib.hid hxn
      unfold I64 at hxa
      clear hx hs hwx hxn
      by_cases t1 : x.a < 1
      · have hf : Q = false := rgt_no Hs.out fun h => by
          have h' : 1 ≤ x.a ∧ x.a - j - 1 = ix ∧ x.a ≤ 1099511627776 ∧ tj ≤ x.b ∧ 1 ≤ x.b ∧ x.b ≤ 1099511627776 ∧ 0 ≤ x.c ∧ x.c ≤ 2 ∧ x.d.length ≤ 4096 := okE_iff.1 h
          have := Hxn.out
          try simp only [bne_iff_ne, ne_eq] at *
          omega
        have Hf := Lib.hid hf
        clear hf
        go_wp2_with fail
        all_goals
          go_ret
          exact ⟨ret_bool Hf.out.symm, Hb.out.alloc Hb.out.size _⟩
      · have t1d : decide (x.a < 1) = false := decide_eq_false t1
        have w1 : IntKind.i64.wrap (x.a - (j : Int)) = x.a - j := by rw [IntKind.wrap_i64]; omega
        have w2 : IntKind.i64.wrap (x.a - (j : Int) - 1) = x.a - j - 1 := by rw [IntKind.wrap_i64]; omega
        by_cases t2 : (x.a - (j : Int) - 1 != ix) = true
        · have hf : Q = false := rgt_no Hs.out fun h => by
            have h' : 1 ≤ x.a ∧ x.a - j - 1 = ix ∧ x.a ≤ 1099511627776 ∧ tj ≤ x.b ∧ 1 ≤ x.b ∧ x.b ≤ 1099511627776 ∧ 0 ≤ x.c ∧ x.c ≤ 2 ∧ x.d.length ≤ 4096 := okE_iff.1 h
            have := Hxn.out
            try simp only [bne_iff_ne, ne_eq] at *
            omega
          have Hf := Lib.hid hf
          clear hf
          go_wp2_with fail
          all_goals
            go_ret
            exact ⟨ret_bool Hf.out.symm, Hb.out.alloc Hb.out.size _⟩
        · have t2d : (x.a - (j : Int) - 1 != ix) = false := by simpa using t2
          have t2e : x.a - (j : Int) - 1 = ix := by simpa using t2d
          have T2 := Lib.hid t2e
          clear t2e
          by_cases t3 : 1099511627776 < x.a
          · have hf : Q = false := rgt_no Hs.out fun h => by
              have h' : 1 ≤ x.a ∧ x.a - j - 1 = ix ∧ x.a ≤ 1099511627776 ∧ tj ≤ x.b ∧ 1 ≤ x.b ∧ x.b ≤ 1099511627776 ∧ 0 ≤ x.c ∧ x.c ≤ 2 ∧ x.d.length ≤ 4096 := okE_iff.1 h
              have := Hxn.out
              try simp only [bne_iff_ne, ne_eq] at *
              omega
            have Hf := Lib.hid hf
            clear hf
            go_wp2_with fail
            all_goals
              go_ret
              exact ⟨ret_bool Hf.out.symm, Hb.out.alloc Hb.out.size _⟩
          · have t3d : decide (1099511627776 < x.a) = false := decide_eq_false t3
            by_cases t4 : x.b < tj
            · have hf : Q = false := rgt_no Hs.out fun h => by
                have h' : 1 ≤ x.a ∧ x.a - j - 1 = ix ∧ x.a ≤ 1099511627776 ∧ tj ≤ x.b ∧ 1 ≤ x.b ∧ x.b ≤ 1099511627776 ∧ 0 ≤ x.c ∧ x.c ≤ 2 ∧ x.d.length ≤ 4096 := okE_iff.1 h
                have := Hxn.out
                try simp only [bne_iff_ne, ne_eq] at *
                omega
              have Hf := Lib.hid hf
              clear hf
              go_wp2_with fail
              all_goals
                go_ret
                exact ⟨ret_bool Hf.out.symm, Hb.out.alloc Hb.out.size _⟩
            · have t4d : decide (x.b < tj) = false := decide_eq_false t4
              by_cases t4b : x.b < 1
              · have hf : Q = false := rgt_no Hs.out fun h => by
                  have h' : 1 ≤ x.a ∧ x.a - j - 1 = ix ∧ x.a ≤ 1099511627776 ∧ tj ≤ x.b ∧ 1 ≤ x.b ∧ x.b ≤ 1099511627776 ∧ 0 ≤ x.c ∧ x.c ≤ 2 ∧ x.d.length ≤ 4096 := okE_iff.1 h
                  have := Hxn.out
                  try simp only [bne_iff_ne, ne_eq] at *
                  omega
                have Hf := Lib.hid hf
                clear hf
                go_wp2_with fail
                all_goals
                  go_ret
                  exact ⟨ret_bool Hf.out.symm, Hb.out.alloc Hb.out.size _⟩
              · have t4bd : decide (x.b < 1) = false := decide_eq_false t4b
                by_cases t5 : 1099511627776 < x.b
                · have hf : Q = false := rgt_no Hs.out fun h => by
                    have h' : 1 ≤ x.a ∧ x.a - j - 1 = ix ∧ x.a ≤ 1099511627776 ∧ tj ≤ x.b ∧ 1 ≤ x.b ∧ x.b ≤ 1099511627776 ∧ 0 ≤ x.c ∧ x.c ≤ 2 ∧ x.d.length ≤ 4096 := okE_iff.1 h
                    have := Hxn.out
                    try simp only [bne_iff_ne, ne_eq] at *
                    omega
                  have Hf := Lib.hid hf
                  clear hf
                  go_wp2_with fail
                  all_goals
                    go_ret
                    exact ⟨ret_bool Hf.out.symm, Hb.out.alloc Hb.out.size _⟩
                · have t5d : decide (1099511627776 < x.b) = false := decide_eq_false t5
                  by_cases t6 : x.c < 0
                  · have hf : Q = false := rgt_no Hs.out fun h => by
                      have h' : 1 ≤ x.a ∧ x.a - j - 1 = ix ∧ x.a ≤ 1099511627776 ∧ tj ≤ x.b ∧ 1 ≤ x.b ∧ x.b ≤ 1099511627776 ∧ 0 ≤ x.c ∧ x.c ≤ 2 ∧ x.d.length ≤ 4096 := okE_iff.1 h
                      have := Hxn.out
                      try simp only [bne_iff_ne, ne_eq] at *
                      omega
                    have Hf := Lib.hid hf
                    clear hf
                    go_wp2_with fail
                    all_goals
                      go_ret
                      exact ⟨ret_bool Hf.out.symm, Hb.out.alloc Hb.out.size _⟩
                  · have t6d : decide (x.c < 0) = false := decide_eq_false t6
                    by_cases t7 : 2 < x.c
                    · have hf : Q = false := rgt_no Hs.out fun h => by
                        have h' : 1 ≤ x.a ∧ x.a - j - 1 = ix ∧ x.a ≤ 1099511627776 ∧ tj ≤ x.b ∧ 1 ≤ x.b ∧ x.b ≤ 1099511627776 ∧ 0 ≤ x.c ∧ x.c ≤ 2 ∧ x.d.length ≤ 4096 := okE_iff.1 h
                        have := Hxn.out
                        try simp only [bne_iff_ne, ne_eq] at *
                        omega
                      have Hf := Lib.hid hf
                      clear hf
                      go_wp2_with fail
                      all_goals
                        go_ret
                        exact ⟨ret_bool Hf.out.symm, Hb.out.alloc Hb.out.size _⟩
                    · have t7d : decide (2 < x.c) = false := decide_eq_false t7
                      by_cases t8 : 4096 < (x.n : Int)
                      · have hf : Q = false := rgt_no Hs.out fun h => by
                          have h' : 1 ≤ x.a ∧ x.a - j - 1 = ix ∧ x.a ≤ 1099511627776 ∧ tj ≤ x.b ∧ 1 ≤ x.b ∧ x.b ≤ 1099511627776 ∧ 0 ≤ x.c ∧ x.c ≤ 2 ∧ x.d.length ≤ 4096 := okE_iff.1 h
                          have := Hxn.out
                          try simp only [bne_iff_ne, ne_eq] at *
                          omega
                        have Hf := Lib.hid hf
                        clear hf
                        go_wp2_with fail
                        all_goals
                          go_ret
                          exact ⟨ret_bool Hf.out.symm, Hb.out.alloc Hb.out.size _⟩
                      · have t8d : decide (4096 < (x.n : Int)) = false := decide_eq_false t8
                        have hok : okE ix tj j (en x) = true := okE_iff.2 (by
                          show 1 ≤ x.a ∧ x.a - j - 1 = ix ∧ x.a ≤ 1099511627776 ∧ tj ≤ x.b ∧ 1 ≤ x.b ∧ x.b ≤ 1099511627776 ∧ 0 ≤ x.c ∧ x.c ≤ 2 ∧ x.d.length ≤ 4096
                          have := Hxn.out
                          have := T2.out
                          omega)
                        have hq2 := rgt_yes Hs.out hok
                        have Hq2 := Lib.hid hq2
                        clear hok hq2
                        go_wp2_with fail
                        all_goals
                          go_roundg (n - (j + 1))
                          case measure => have := Hm.out; omega
                          case rel => exact ⟨j + 1, x.b, rfl, by omega, by go_num, rfl, Hq2.out, Hb.out.alloc Hb.out.size _⟩
    · obtain rfl : j = n := by omega
      have hf : Q = true := by
        rw [← Hq.out, List.drop_of_length_le (by simp [Hll.out])]
        rfl
      have Hf := Lib.hid hf
      clear hf
      go_wp2_with fail
      go_ret
      exact ⟨ret_bool Hf.out.symm, Hb.out⟩
end Go.Proofs.YtmhaahcbmdhinaaGreatDoor

