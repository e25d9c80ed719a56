/- Rows of a call's own that are written over in place.
   Rows of entries of a call's own, with their bytes.
   Walks of the law's giveEntry, giveEntries, giveLog.
   Walk of entry.Encode.
   A region that draws its order, whose first n operations only read, and whose others each wait for one of the others: the first ones can be gone through in the text's order; what is behind them is walked as any region is. -/
import Derived.Test.YtmhaahcbmdhinaaGreatDoorRows
import Derived.Test.YtmhaahcbmdhinaaGreatDoorK0
import Derived.Deep.RegionLaw
import Derived.Lib.SliceRun
import Derived.Laws.OwnMore
import Derived.Test.YtmhaahcbmdhinaaGreatDoorK1
import Derived.Deep.RegionHeld3
import Derived.Deep.DrawnRows
import Derived.Test.YtmhaahcbmdhinaaGreatDoorK2
import Derived.StillTailTactics
namespace Go.Proofs.YtmhaahcbmdhinaaGreatDoor
open Go.RowKit
set_option linter.unusedVariables false
set_option linter.unusedSimpArgs false
set_option maxRecDepth 100000
/-- A list with others laid over it from o on. -/
def lays (xs : List Value) (o : Nat) (vs : List Value) : List Value := match vs with
  | [] => xs
  | v :: vs => lays (xs.set o v) (o + 1) vs
theorem lays_length (vs : List Value) : ∀ (xs : List Value) (o : Nat), (lays xs o vs).length = xs.length := by
  induction vs with
  | nil => intro xs o; rfl
  | cons v vs ih => intro xs o; rw [lays, ih, List.length_set]
theorem lays_take (vs : List Value) : ∀ (xs : List Value) (o k : Nat), k ≤ o → (lays xs o vs).take k = xs.take k := by
  induction vs with
  | nil => intro xs o k _; rfl
  | cons v vs ih =>
    intro xs o k hk
    rw [lays, ih _ _ _ (by omega), List.take_set_of_le hk]
theorem lays_eq (vs : List Value) : ∀ (xs : List Value) (o : Nat), o + vs.length ≤ xs.length → lays xs o vs = xs.take o ++ vs ++ xs.drop (o + vs.length) := by
  induction vs with
  | nil => intro xs o _; simp [lays]
  | cons v vs ih =>
    intro xs o h
    simp only [List.length_cons] at h
    rw [lays, ih _ _ (by rw [List.length_set]; omega), List.take_add_one, List.take_set_of_le (Nat.le_refl _), List.getElem?_set_self (by omega)]
    rw [List.drop_set_of_lt (by omega)]
    simp only [Option.toList_some, List.append_assoc, List.cons_append, List.nil_append, List.length_cons]
    rw [show o + 1 + vs.length = o + (vs.length + 1) by omega]
theorem own_setCells {w : World} {B : Nat} {e : TypeId} {size g n c : Nat} {xs : List Value} (vs : List Value) : ∀ (w : World) (xs : List Value) (o : Nat), w.ownsRow B e size (.slice (some ⟨g, 0, none⟩) n c) n xs → (w.setCells g o vs).ownsRow B e size (.slice (some ⟨g, 0, none⟩) n c) n (lays xs o vs) ∧ w.grownBy (w.setCells g o vs) (some g) := by
  induction vs with
  | nil => intro w xs o h; exact ⟨h, World.grownBy.refl _ _⟩
  | cons v vs ih =>
    intro w xs o h
    have h1 := h.stored o v
    have h2 := ih _ _ (o + 1) h1.1
    refine ⟨h2.1, ?_⟩
    exact ⟨h2.2.os.trans h1.2.os, h2.2.tape.trans h1.2.tape, h2.2.output.trans h1.2.output, Nat.le_trans h1.2.size h2.2.size, fun k hk hne => (h2.2.block k (Nat.lt_of_lt_of_le hk h1.2.size) hne).trans (h1.2.block k hk hne)⟩
/-- A row is a shorter row. -/
theorem own_take {w : World} {B : Nat} {e : TypeId} {size g n c m : Nat} {xs : List Value} (h : w.ownsRow B e size (.slice (some ⟨g, 0, none⟩) n c) n xs) (hm : m ≤ n) : w.ownsRow B e size (.slice (some ⟨g, 0, none⟩) m c) m (xs.take (m * size)) := by
  have hle := Nat.mul_le_mul_right size hm
  refine ⟨by rw [List.length_take, h.1]; omega, ?_⟩
  rcases h.2 with ⟨h', _⟩ | ⟨g', cap', cur, h', hb, hg, hnc, hcm, hcs, htake⟩
  · simp at h'
  · simp only [Value.slice.injEq, Option.some.injEq, Addr.mk.injEq, and_true, true_and] at h'
    obtain ⟨rfl, rfl⟩ := h'
    refine .inr ⟨g, c, cur, rfl, hb, hg, by omega, hcm, hcs, ?_⟩
    rw [← htake, List.take_take]
    congr 1
    omega
theorem own_isSome {w : World} {B : Nat} {e : TypeId} {size g n c : Nat} {xs : List Value} (h : w.ownsRow B e size (.slice (some ⟨g, 0, none⟩) n c) n xs) (j : Nat) (hj : j < c * size) : (w.cell? ⟨g, j, none⟩).isSome = true := by
  rcases h.2 with ⟨h', _⟩ | ⟨g', cap', cur, h', hb, hg, hnc, hcm, hcs, htake⟩
  · simp at h'
  · simp only [Value.slice.injEq, Option.some.injEq, Addr.mk.injEq, and_true, true_and] at h'
    obtain ⟨rfl, rfl⟩ := h'
    rw [cell_of_row w g j cur e (0, 0) hg]
    have : j < cur.size := by omega
    simp [this]
theorem run_clear_one {P : Program} (w : World) (t e ty : TypeId) (z : Value) (vs : List Value) (ht : P.underlying t = some (.slice e)) (hv : ∀ w, (zeroValue e).run P w = .ok z w) (hz : (Builtin.zeroCells z.cells 1).toList = vs) (h1 : ∀ v ∈ vs, v.oneCell' = true) (b o c : Nat)
    (hc : ∀ j, j < vs.length → (w.cell? ⟨b, o + j, none⟩).isSome = true) (hf : ∀ j, j < vs.length → w.frozen? ⟨b, o + j, none⟩ = false) :
    (Builtin.clear_ #[t] ty #[.slice (some ⟨b, o, none⟩) 1 c]).run P w = .ok (.tuple #[]) (w.setCells b o vs) := by
  have hst := run_storeCells_cells (P := P) b o vs 0 w (by simpa using hc) (by simpa using hf) h1
  simp only [Nat.add_zero] at hst
  simp [Builtin.clear_, run_underlying ht, hv, hz, hst]
end Go.Proofs.YtmhaahcbmdhinaaGreatDoor
namespace Go.Proofs.YtmhaahcbmdhinaaGreatDoor
open Go.RowKit
set_option maxRecDepth 100000
set_option linter.unusedVariables false
set_option linter.unusedSimpArgs false
theorem ent_elem : Elem Tryz.prog 62 (.agg #[.int .i64 0, .int .i64 0, .int .i64 0, .slice none 0 0]) 4 48 := by unfold Elem; kernel_rfl
theorem ecell_one (l : List Er) : ∀ u ∈ flat ecell l, u.oneCell' = true := by
  induction l with
  | nil => intro u hu; cases hu
  | cons x l ih =>
    intro u hu
    rw [flat_cons, List.mem_append] at hu
    rcases hu with hu | hu
    · simp only [ecell, List.mem_cons, List.not_mem_nil, or_false] at hu
      rcases hu with rfl | rfl | rfl | rfl <;> rfl
    · exact ih u hu
/-- A literal of one row. -/
theorem Rd.lit4 (w : World) {cs : Array Value} (t : TypeId) {fr : Nat × Nat} (hk : cs.size = 4) : Rd (w.alloc (.cells cs t fr)) T 4 (some ⟨w.heap.size, 0, none⟩) 1 cs.toList :=
  ⟨by simp [hk], fun _ => ⟨_, rfl, trivial, fun j u hu => World.news_of_block (heap_alloc_new w _) j u hu⟩⟩
def DatO (w : World) (B : Nat) (A : Option Addr) (l : List Er) : Prop := ∀ y ∈ l, Rd w (fun b => B ≤ b ∧ A.map (·.block) ≠ some b) 1 y.A y.n (bs y.d) ∧ y.n ≤ y.m ∧ y.m ≤ maxLen
structure Ro (W : World) (B : Nat) (A : Option Addr) (n c : Nat) (l : List Er) : Prop where
  ow : W.ownsRow B 62 4 (.slice A n c) n (flat ecell l)
  dt : DatO W B A l
section
variable {W W' : World} {B n c : Nat} {A : Option Addr} {l : List Er}
theorem Ro.nil (W : World) (B : Nat) : Ro W B none 0 0 [] := ⟨World.ownsRow_nil _ _ _ _, by intro y hy; cases hy⟩
theorem Ro.below (h : Ro W B A n c l) (hb : Below W.heap.size W W') : Ro W' B A n c l := ⟨own_below h.ow hb, fun y hy => ⟨(h.dt y hy).1.below hb, (h.dt y hy).2⟩⟩
theorem Ro.alloc (h : Ro W B A n c l) (o : Obj) : Ro (W.alloc o) B A n c l := h.below ((Below.refl _ _).alloc (Nat.le_refl _) o)
theorem Ro.drew (h : Ro W B A n c l) : Ro W.drew B A n c l := h.below (Below.refl _ _).drew
theorem Ro.rd (h : Ro W B A n c l) : Rd W T 4 A n (flat ecell l) := (Rd.of_own h.ow).any
theorem Ro.dat (h : Ro W B A n c l) : Dat W l := fun y hy => ⟨(h.dt y hy).1.any, (h.dt y hy).2⟩
theorem Ro.dat_from (h : Ro W B A n c l) : ∀ y ∈ l, Rd W (B ≤ ·) 1 y.A y.n (bs y.d) ∧ y.n ≤ y.m ∧ y.m ≤ maxLen := fun y hy => ⟨(h.dt y hy).1.mono fun b hb => hb.1, (h.dt y hy).2⟩
theorem Ro.len (h : Ro W B A n c l) : l.length = n := h.rd.flen ecell_len (by omega)
/-- An entry more, by append. -/
theorem Ro.push {y : Er} {k c2 : Nat} {A2 : Option Addr} {W2 : World} (h : Ro W B A n c l) (hy : Rd W (fun b => B ≤ b ∧ A.map (·.block) ≠ some b) 1 y.A y.n (bs y.d)) (hy1 : y.n ≤ y.m) (hy2 : y.m ≤ maxLen)
    (hk : k = n + 1) (ho : W2.ownsRow B 62 4 (.slice A2 k c2) k (flat ecell l ++ ecell y)) (hg : W.grownBy W2 (A.map (·.block))) (hat : A2.map (·.block) = A.map (·.block) ∨ A2.map (·.block) = some W.heap.size) :
    Ro W2 B A2 (n + 1) c2 (l ++ [y]) := by
  subst hk
  refine ⟨by rw [flat_append, flat_one]; exact ho, fun z hz => ?_⟩
  have hz' : Rd W (fun b => B ≤ b ∧ A.map (·.block) ≠ some b) 1 z.A z.n (bs z.d) ∧ z.n ≤ z.m ∧ z.m ≤ maxLen := by
    rcases List.mem_append.1 hz with hz | hz
    · exact h.dt z hz
    · obtain rfl := List.mem_singleton.1 hz
      exact ⟨hy, hy1, hy2⟩
  refine ⟨?_, hz'.2⟩
  have h1 := (hz'.1.lt (by omega)).grown hg (fun g hg' h2 => h2.1.2 hg')
  refine h1.mono fun b hb => ?_
  refine ⟨hb.1.1, ?_⟩
  rcases hat with e | e
  · rw [e]; exact hb.1.2
  · rw [e]; intro e2; injection e2 with e2; omega
/-- The first m of them. -/
theorem Ro.take {m : Nat} (h : Ro W B A n c l) (hm : m ≤ n) (hA : A = none ∨ ∃ g, A = some ⟨g, 0, none⟩) : Ro W B A m c (l.take m) := by
  refine ⟨?_, fun z hz => h.dt z (List.mem_of_mem_take hz)⟩
  rcases hA with rfl | ⟨g, rfl⟩
  · have hn : n = 0 := h.rd.nil_of_none.1
    obtain rfl : m = 0 := by omega
    have := h.ow
    subst hn
    rw [List.take_zero]
    have hl := h.len
    rw [List.eq_nil_of_length_eq_zero hl] at this
    exact this
  · rw [flat_take ecell_len]
    exact own_take h.ow hm
theorem Ro.form (h : Ro W B A n c l) : A = none ∨ ∃ g, A = some ⟨g, 0, none⟩ := by
  rcases h.ow.2 with ⟨h', h''⟩ | ⟨g', _, _, h', _⟩
  · exact .inl (by injection h')
  · injection h' with h' _ _
    exact .inr ⟨g', h'⟩
end
end Go.Proofs.YtmhaahcbmdhinaaGreatDoor
namespace Go.Proofs.YtmhaahcbmdhinaaGreatDoor
open Go.RowKit
set_option maxRecDepth 100000
set_option linter.unusedVariables false
set_option linter.unusedSimpArgs false
attribute [local go_sem ↓] Go.wp_at_zero Go.wp_at_succ
theorem own_cap {w : World} {base : Nat} {e : TypeId} {size n c : Nat} {A : Option Addr} {xs : List Value} (h : w.ownsRow base e size (.slice A n c) n xs) : n ≤ c ∧ c ≤ maxLen := by
  obtain ⟨A', c', hv, h1, h2⟩ := own_form h
  injection hv with _ _ hv
  subst hv
  exact ⟨h1, h2⟩
def GivePost (W : World) (x : Er) (e : Ending) (w' : World) : Prop :=
  ∃ A m, e = .returned (.agg #[.int .i64 x.a, .int .i64 x.b, .int .i64 x.c, .slice A x.n m]) ∧ Rd w' (W.heap.size ≤ ·) 1 A x.n (bs x.d) ∧ x.n ≤ m ∧ m ≤ maxLen ∧ Below W.heap.size W w'
set_option maxHeartbeats 3200000 in
theorem give1_any (x : Er) (w : World) (hr : Rd w T 1 x.A x.n (bs x.d)) (hn : x.n ≤ 1000000) :
    Calls Tryz.prog 132 #[.agg #[.int .i64 x.a, .int .i64 x.b, .int .i64 x.c, .slice x.A x.n x.m]] w (GivePost w x) := by
  have hr' := hr.lt (by omega)
  obtain ⟨W0, hW0⟩ : ∃ W0, W0 = (w.alloc (.cells #[.int .i64 x.a, .int .i64 x.b, .int .i64 x.c, .slice x.A x.n x.m] 104)).alloc (.cells #[.int .i64 0, .int .i64 0, .int .i64 0, .slice none 0 0] 62) := ⟨_, rfl⟩
  have b0 : Bx W0 w.heap.size #[.int .i64 x.a, .int .i64 x.b, .int .i64 x.c, .slice x.A x.n x.m] := by subst hW0; exact (Bx.new _ _ _ rfl).alloc _
  have F0 : Fr W0 (w.heap.size + 1) 4 W0 := by subst hW0; exact Fr.new (by simp) rfl
  have r0 : Rd W0 (· < w.heap.size) 1 x.A x.n (bs x.d) := by subst hW0; exact ((hr'.mono fun b hb => hb.2).alloc _).alloc _
  have hbe : Below w.heap.size w W0 := by subst hW0; exact ((Below.refl _ _).alloc (Nat.le_refl _) _).alloc (by simp) _
  have hz : W0.heap.size = w.heap.size + 2 := by subst hW0; simp
  have u0 : W0.cell? ⟨w.heap.size, 0, none⟩ = some (.int .i64 x.a) := b0.c 0
  have u1 : W0.cell? ⟨w.heap.size, 1, none⟩ = some (.int .i64 x.b) := b0.c 1
  have u2 : W0.cell? ⟨w.heap.size, 2, none⟩ = some (.int .i64 x.c) := b0.c 2
  have u3 : W0.cell? ⟨w.heap.size, 3, none⟩ = some (.slice x.A x.n x.m) := b0.c 3
  have sof : ∀ W, Fr W0 (w.heap.size + 1) 4 W → (Fr W0 (w.heap.size + 1) 4 W ∧ W.cell? ⟨w.heap.size, 0, none⟩ = some (.int .i64 x.a) ∧ W.cell? ⟨w.heap.size, 1, none⟩ = some (.int .i64 x.b) ∧ W.cell? ⟨w.heap.size, 2, none⟩ = some (.int .i64 x.c) ∧ W.cell? ⟨w.heap.size, 3, none⟩ = some (.slice x.A x.n x.m) ∧ W.cell? ⟨w.heap.size + 1, 0, none⟩ = some (peek W (w.heap.size + 1) 0) ∧ W.cell? ⟨w.heap.size + 1, 1, none⟩ = some (peek W (w.heap.size + 1) 1) ∧ W.cell? ⟨w.heap.size + 1, 2, none⟩ = some (peek W (w.heap.size + 1) 2) ∧ W.cell? ⟨w.heap.size + 1, 3, none⟩ = some (peek W (w.heap.size + 1) 3) ∧ W.frozen? ⟨w.heap.size + 1, 0, none⟩ = false ∧ W.frozen? ⟨w.heap.size + 1, 1, none⟩ = false ∧ W.frozen? ⟨w.heap.size + 1, 2, none⟩ = false ∧ W.frozen? ⟨w.heap.size + 1, 3, none⟩ = false) :=
    fun W F2 => ⟨F2, F2.cell (by omega) u0, F2.cell (by omega) u1, F2.cell (by omega) u2, F2.cell (by omega) u3, F2.pk (by omega), F2.pk (by omega), F2.pk (by omega), F2.pk (by omega), F2.fz _, F2.fz _, F2.fz _, F2.fz _⟩
  have HW := Lib.hid hW0
  have s0 := sof _ F0
  have Hz := Lib.hid hz
  clear hW0 b0 u0 u1 u2 u3 hr hr' hz
  go_enter Tryz.func132, Tryz.ntmps132
  go_upto_region 2 with (fail)
  rw [← HW.out]
  go_split_ands
  go_region_held3 (fun W => Fr W0 (w.heap.size + 1) 4 W ∧ W.cell? ⟨w.heap.size, 0, none⟩ = some (.int .i64 x.a) ∧ W.cell? ⟨w.heap.size, 1, none⟩ = some (.int .i64 x.b) ∧ W.cell? ⟨w.heap.size, 2, none⟩ = some (.int .i64 x.c) ∧ W.cell? ⟨w.heap.size, 3, none⟩ = some (.slice x.A x.n x.m) ∧ W.cell? ⟨w.heap.size + 1, 0, none⟩ = some (peek W (w.heap.size + 1) 0) ∧ W.cell? ⟨w.heap.size + 1, 1, none⟩ = some (peek W (w.heap.size + 1) 1) ∧ W.cell? ⟨w.heap.size + 1, 2, none⟩ = some (peek W (w.heap.size + 1) 2) ∧ W.cell? ⟨w.heap.size + 1, 3, none⟩ = some (peek W (w.heap.size + 1) 3) ∧ W.frozen? ⟨w.heap.size + 1, 0, none⟩ = false ∧ W.frozen? ⟨w.heap.size + 1, 1, none⟩ = false ∧ W.frozen? ⟨w.heap.size + 1, 2, none⟩ = false ∧ W.frozen? ⟨w.heap.size + 1, 3, none⟩ = false) ((refine sof _ ?_; first | exact F0.drew | (go_split_ands; exact Fr.grown (by assumption) hg4 (by simp)) | (go_split_ands; exact Fr.set (Fr.set (Fr.set (Fr.set (by assumption) _ _) _ _) _ _) _ _))) (first
    | (refine step_append_any (news := bs x.d) (c := x.m) _ Tryz.underlying26 u8_elem rfl (by omega) rfl rfl (by simp [Act.eval, Act.put]) (World.ownsRow_nil _ W0.heap.size 5 1) (by simp [Act.eval, Act.put]) r0.drew (bs_one _) (by omega) (Nat.le_refl _) (Nat.zero_add _) (List.nil_append _) ?_; intro A4 c4 w4 hown4 hg4 hat4; have F4 : Fr W0 (w.heap.size + 1) 4 w4 := Fr.grown (by go_split_ands; assumption) hg4 (by simp)))
  all_goals
    have q0 : w4.cell? ⟨w.heap.size + 1, 0, none⟩ = some (peek w4 (w.heap.size + 1) 0) := F4.pk (by omega)
    have q1 : w4.cell? ⟨w.heap.size + 1, 1, none⟩ = some (peek w4 (w.heap.size + 1) 1) := F4.pk (by omega)
    have q2 : w4.cell? ⟨w.heap.size + 1, 2, none⟩ = some (peek w4 (w.heap.size + 1) 2) := F4.pk (by omega)
    have q3 : w4.cell? ⟨w.heap.size + 1, 3, none⟩ = some (peek w4 (w.heap.size + 1) 3) := F4.pk (by omega)
    have FF := Fr.set (Fr.set (Fr.set (Fr.set F4 0 (.int .i64 x.a)) 1 (.int .i64 x.b)) 2 (.int .i64 x.c)) 3 (.slice A4 x.n c4)
    have hz := Hz.out
    go_wp2_with fail
    refine bodyPost_ret (by simp [results, Tryz.results132, go_sem, q0, q1, q2, q3]; rfl) rfl ?_
    have hm := own_cap hown4
    refine ⟨A4, c4, rfl, ?_, hm.1, hm.2, hbe.trans ((FF.to_below (B := w.heap.size) (by omega)))⟩
    have r4 := Rd.of_own hown4
    have hne : ¬ W0.heap.size ≤ w.heap.size + 1 := by omega
    exact ((((r4.setCell (p := ⟨w.heap.size + 1, 0, none⟩) hne _).setCell (p := ⟨w.heap.size + 1, 1, none⟩) hne _).setCell (p := ⟨w.heap.size + 1, 2, none⟩) hne _).setCell (p := ⟨w.heap.size + 1, 3, none⟩) hne _).mono fun b hb => by omega
/-- The same entries, one by one. -/
def Same (L L' : List Er) : Prop := L'.map en = L.map en
theorem Wel.of {W : World} {B n c : Nat} {A : Option Addr} {L L' : List Er} (hw : Wel L) (hs : Same L L') (h : Dat W L') : Wel L' := by
  intro y hy
  have hm : en y ∈ L.map en := by rw [← hs]; exact List.mem_map.2 ⟨y, hy, rfl⟩
  obtain ⟨x, hx, he⟩ := List.mem_map.1 hm
  have hx' := (hw x hx).1
  have e1 : x.a = y.a := congrArg En.a he
  have e2 : x.b = y.b := congrArg En.b he
  have e3 : x.c = y.c := congrArg En.c he
  unfold W64 at hx' ⊢
  rw [e1, e2, e3] at hx'
  exact ⟨hx', ((h y hy).1.blen).symm⟩
def GivesPost (W : World) (n : Nat) (L : List Er) (e : Ending) (w' : World) : Prop :=
  ∃ A c L', e = .returned (.slice A n c) ∧ Ro w' W.heap.size A n c L' ∧ Same L L' ∧ Below W.heap.size W w'
set_option maxHeartbeats 1600000 in
theorem gives_any (A : Option Addr) (n c : Nat) (L : List Er) (w : World) {ok : Nat → Prop} (hr : Rd w ok 4 A n (flat ecell L)) (hd : Dat w L) (hs : ∀ x ∈ L, x.n ≤ 1000000) (hn : n ≤ 1000000) :
    Calls Tryz.prog 72 #[.slice A n c] w (GivesPost w n L) := by
  have Hll := Lib.hid (hr.flen ecell_len (by omega))
  have Hd := Lib.hid hd
  have Hs := Lib.hid hs
  have Hr := Lib.hid hr
  clear hd hs hr
  go_enter Tryz.func72, Tryz.ntmps72
  go_wp2_with fail
  go_loopg [3, 4] n (fun m s3 s4 wr => ∃ (j : Nat) (A' : Option Addr) (c' : Nat) (L' : List Er), m = n - j ∧ j ≤ n ∧ s4 = .int .i64 j ∧ s3 = .slice A' j c' ∧ Ro wr w.heap.size A' j c' L' ∧ Same (L.take j) L' ∧ Below w.heap.size w wr)
  case atStart => exact ⟨0, none, 0, [], by omega, by omega, rfl, rfl, Ro.nil _ _, rfl, Below.refl _ _⟩
  case round =>
    obtain ⟨j, A', c', L', hm, hj, rfl, rfl, hro, hsm, hb⟩ := hrel
    have Hm := Lib.hid hm
    have Ro1 := Lib.hid hro
    have Sm := Lib.hid hsm
    have Hb := Lib.hid hb
    clear hm hro hsm hb
    by_cases hlt : j < n
    · obtain ⟨b, o, x, rfl, _, hbl, hx, c0, c1, c2, c3⟩ := er_cells (Hr.out.below Hb.out) hlt
      have hjI : (j : Int) < n := by omega
      have hdx := (Hd.out x (List.mem_of_getElem? hx)).1.below Hb.out
      have hxn := Hs.out x (List.mem_of_getElem? hx)
      have hg1 := give1_any x wr hdx hxn
      have Hg1 := Lib.hid hg1
      have Hx := Lib.hid hx
      clear hdx hx hg1
      go_wp2_with fail
      refine Hg1.out.mono ?_
      rintro e w2 ⟨A2, m2, rfl, r2, hm1, hm2, hb2⟩
      have ro2 := Ro1.out.below hb2
      have hz2 := hb2.size
      have hz1 := Hb.out.size
      have R2 := Lib.hid r2
      have Ro2 := Lib.hid ro2
      have Hb2 := Lib.hid hb2
      clear r2 ro2 hb2
      go_wp2_with (at_builtin; refine wpList_append_any (news := [.int .i64 x.a, .int .i64 x.b, .int .i64 x.c, .slice A2 x.n m2]) _ Tryz.underlying36 ent_elem rfl (by omega) rfl rfl rfl (Ro2.out.alloc _).ow rfl (show Rd (w2.alloc (.cells #[.int .i64 x.a, .int .i64 x.b, .int .i64 x.c, .slice A2 x.n m2] 62)) T 4 (some ⟨w2.heap.size, 0, none⟩) 1 [.int .i64 x.a, .int .i64 x.b, .int .i64 x.c, .slice A2 x.n m2] from (Rd.lit4 _ _ rfl)) (by intro u hu; simp only [List.mem_cons, List.not_mem_nil, or_false] at hu; rcases hu with rfl | rfl | rfl | rfl <;> rfl) (by omega) (by simp; omega) rfl rfl ?_; intro A3 c3' w3 hown3 hg3 hat3)
      have hpush := (Ro2.out.alloc (.cells #[.int .i64 x.a, .int .i64 x.b, .int .i64 x.c, .slice A2 x.n m2] 62)).push (y := ⟨x.a, x.b, x.c, A2, x.n, m2, x.d⟩) ((R2.out.alloc _).mono fun b hb => ⟨by omega, fun e => by have := own_lt Ro1.out.ow b e; omega⟩) hm1 hm2 rfl hown3 hg3 hat3
      have hsm2 : Same (L.take (j + 1)) (L' ++ [⟨x.a, x.b, x.c, A2, x.n, m2, x.d⟩]) := by
        unfold Same
        rw [List.take_add_one, Hx.out, List.map_append, List.map_append, Sm.out]
        rfl
      have hb3 := (((Hb.out.trans (Hb2.out.mono Hb.out.size)).alloc (by omega) (.cells #[.int .i64 x.a, .int .i64 x.b, .int .i64 x.c, .slice A2 x.n m2] 62))).grown hg3 (by simp; omega) (fun q hq => (own_lt Ro1.out.ow q hq).1)
      go_roundg (n - (j + 1))
      case measure => have := Hm.out; omega
      case rel => exact ⟨j + 1, A3, c3', _, rfl, by omega, by go_num, rfl, hpush, hsm2, hb3⟩
    · obtain rfl : j = n := by omega
      go_wp2_with fail
      go_ret
      exact ⟨A', c', L', rfl, Ro1.out, by have := Sm.out; rwa [List.take_of_length_le (Nat.le_of_eq Hll.out)] at this, Hb.out⟩
def LogPost (W : World) (b t : Int) (n : Nat) (L : List Er) (e : Ending) (w' : World) : Prop :=
  ∃ A c L', e = .returned (.agg #[.int .i64 b, .int .i64 t, .slice A n c]) ∧ Rd w' T 4 A n (flat ecell L') ∧ Dat w' L' ∧ Same L L' ∧ n ≤ c ∧ c ≤ maxLen ∧ Below W.heap.size W w'
set_option maxHeartbeats 3200000 in
theorem giveLog_any (b t : Int) (A : Option Addr) (n c : Nat) (L : List Er) (w : World) (hr : Rd w T 4 A n (flat ecell L)) (hd : Dat w L) (hs : ∀ x ∈ L, x.n ≤ 1000000) (hn : n ≤ 1000000) :
    Calls Tryz.prog 39 #[.agg #[.int .i64 b, .int .i64 t, .slice A n c]] w (LogPost w b t n L) := by
  have hr' := hr.lt (by omega)
  obtain ⟨W0, hW0⟩ : ∃ W0, W0 = (w.alloc (.cells #[.int .i64 b, .int .i64 t, .slice A n c] 24)).alloc (.cells #[.int .i64 0, .int .i64 0, .slice none 0 0] 38) := ⟨_, rfl⟩
  have b0 : Bx W0 w.heap.size #[.int .i64 b, .int .i64 t, .slice A n c] := by subst hW0; exact (Bx.new _ _ _ rfl).alloc _
  have F0 : Fr W0 (w.heap.size + 1) 3 W0 := by subst hW0; exact Fr.new (by simp) rfl
  have r0 : Rd W0 (· < w.heap.size) 4 A n (flat ecell L) := by subst hW0; exact ((hr'.mono fun b hb => hb.2).alloc _).alloc _
  have d0 : ∀ x ∈ L, Rd W0 (· < w.heap.size) 1 x.A x.n (bs x.d) ∧ x.n ≤ x.m ∧ x.m ≤ maxLen := by
    subst hW0
    exact fun x hx => ⟨(((((hd x hx).1.lt (by omega)).mono fun b hb => hb.2).alloc _).alloc _), (hd x hx).2⟩
  have hbe : Below w.heap.size w W0 := by subst hW0; exact ((Below.refl _ _).alloc (Nat.le_refl _) _).alloc (by simp) _
  have hz : W0.heap.size = w.heap.size + 2 := by subst hW0; simp
  have u0 : W0.cell? ⟨w.heap.size, 0, none⟩ = some (.int .i64 b) := b0.c 0
  have u1 : W0.cell? ⟨w.heap.size, 1, none⟩ = some (.int .i64 t) := b0.c 1
  have u2 : W0.cell? ⟨w.heap.size, 2, none⟩ = some (.slice A n c) := b0.c 2
  have sof : ∀ W, Fr W0 (w.heap.size + 1) 3 W → (Fr W0 (w.heap.size + 1) 3 W ∧ W.cell? ⟨w.heap.size, 0, none⟩ = some (.int .i64 b) ∧ W.cell? ⟨w.heap.size, 1, none⟩ = some (.int .i64 t) ∧ W.cell? ⟨w.heap.size, 2, none⟩ = some (.slice A n c) ∧ W.cell? ⟨w.heap.size + 1, 0, none⟩ = some (peek W (w.heap.size + 1) 0) ∧ W.cell? ⟨w.heap.size + 1, 1, none⟩ = some (peek W (w.heap.size + 1) 1) ∧ W.cell? ⟨w.heap.size + 1, 2, none⟩ = some (peek W (w.heap.size + 1) 2) ∧ W.frozen? ⟨w.heap.size + 1, 0, none⟩ = false ∧ W.frozen? ⟨w.heap.size + 1, 1, none⟩ = false ∧ W.frozen? ⟨w.heap.size + 1, 2, none⟩ = false) :=
    fun W F2 => ⟨F2, F2.cell (by omega) u0, F2.cell (by omega) u1, F2.cell (by omega) u2, F2.pk (by omega), F2.pk (by omega), F2.pk (by omega), F2.fz _, F2.fz _, F2.fz _⟩
  have hgv := fun W (h : Fr W0 (w.heap.size + 1) 3 W) => gives_any A n c L W (h.rd r0 (by omega)) (fun x hx => ⟨(h.rd (d0 x hx).1 (by omega)).any, (d0 x hx).2⟩) hs hn
  have Hgv := Lib.hid hgv
  have HW := Lib.hid hW0
  have s0 := sof _ F0
  have Hz := Lib.hid hz
  clear hW0 b0 u0 u1 u2 hr hr' hz r0 d0 hgv hd hs
  go_enter Tryz.func39, Tryz.ntmps39
  go_upto_region 1 with (fail)
  rw [← HW.out]
  go_split_ands
  go_region_held3 (fun W => Fr W0 (w.heap.size + 1) 3 W ∧ W.cell? ⟨w.heap.size, 0, none⟩ = some (.int .i64 b) ∧ W.cell? ⟨w.heap.size, 1, none⟩ = some (.int .i64 t) ∧ W.cell? ⟨w.heap.size, 2, none⟩ = some (.slice A n c) ∧ W.cell? ⟨w.heap.size + 1, 0, none⟩ = some (peek W (w.heap.size + 1) 0) ∧ W.cell? ⟨w.heap.size + 1, 1, none⟩ = some (peek W (w.heap.size + 1) 1) ∧ W.cell? ⟨w.heap.size + 1, 2, none⟩ = some (peek W (w.heap.size + 1) 2) ∧ W.frozen? ⟨w.heap.size + 1, 0, none⟩ = false ∧ W.frozen? ⟨w.heap.size + 1, 1, none⟩ = false ∧ W.frozen? ⟨w.heap.size + 1, 2, none⟩ = false) ((refine sof _ ?_; first | exact F0.drew | (go_split_ands; exact Fr.below (by assumption) (by assumption)) | (go_split_ands; exact Fr.set (Fr.set (Fr.set (by assumption) _ _) _ _) _ _))) (first
    | (go_at_call 72; refine (Hgv.out _ (by go_split_ands; assumption)).mono ?_; rintro e w4 ⟨A4, c4, L4, rfl, ro4, sm4, hb4⟩; have F4 : Fr W0 (w.heap.size + 1) 3 w4 := Fr.below (by go_split_ands; assumption) hb4; have z4 : W0.heap.size ≤ W0.drew.heap.size := Nat.le_refl _))
  all_goals
    have q0 : w4.cell? ⟨w.heap.size + 1, 0, none⟩ = some (peek w4 (w.heap.size + 1) 0) := F4.pk (by omega)
    have q1 : w4.cell? ⟨w.heap.size + 1, 1, none⟩ = some (peek w4 (w.heap.size + 1) 1) := F4.pk (by omega)
    have q2 : w4.cell? ⟨w.heap.size + 1, 2, none⟩ = some (peek w4 (w.heap.size + 1) 2) := F4.pk (by omega)
    have FF := Fr.set (Fr.set (Fr.set F4 0 (.int .i64 b)) 1 (.int .i64 t)) 2 (.slice A4 n c4)
    have hz := Hz.out
    go_wp2_with fail
    refine bodyPost_ret (by simp [results, Tryz.results39, go_sem, q0, q1, q2]; rfl) rfl ?_
    have hm := own_cap ro4.ow
    have hne : ¬ W0.drew.heap.size ≤ w.heap.size + 1 := by show ¬ W0.heap.size ≤ _; omega
    refine ⟨A4, c4, L4, rfl, ?_, fun y hy => ⟨?_, (ro4.dt y hy).2⟩, sm4, hm.1, hm.2, hbe.trans (FF.to_below (B := w.heap.size) (by omega))⟩
    · exact ((((Rd.of_own ro4.ow).setCell (p := ⟨w.heap.size + 1, 0, none⟩) hne _).setCell (p := ⟨w.heap.size + 1, 1, none⟩) hne _).setCell (p := ⟨w.heap.size + 1, 2, none⟩) hne _).any
    · exact ((((ro4.dat_from y hy).1.setCell (p := ⟨w.heap.size + 1, 0, none⟩) hne _).setCell (p := ⟨w.heap.size + 1, 1, none⟩) hne _).setCell (p := ⟨w.heap.size + 1, 2, none⟩) hne _).any
end Go.Proofs.YtmhaahcbmdhinaaGreatDoor
namespace Go.Proofs.YtmhaahcbmdhinaaGreatDoor
open Go.RowKit
set_option maxRecDepth 100000
set_option linter.unusedVariables false
set_option linter.unusedSimpArgs false
attribute [local go_sem ↓] Go.wp_at_zero Go.wp_at_succ
theorem uintL_len (u : Nat) (hu : u < 18446744073709551616) : (uintL u).length ≤ 22 := by
  have h := dig_size u hu
  have : (Lib.decDigits u).length ≤ 20 := h
  simp [uintL]
  omega
/-- An entry's bytes. -/
def encN (a b c : Nat) (d : List UInt8) : List UInt8 := [] ++ uintL a ++ uintL b ++ uintL c ++ bytesL d
def encE (e : En) : List UInt8 := encN e.a.toNat e.b.toNat e.c.toNat e.d
def BytesPost (W : World) (l : List UInt8) (e : Ending) (w' : World) : Prop := ∃ A n c, e = .returned (.slice A n c) ∧ w'.ownsRow W.heap.size 5 1 (.slice A n c) n (bs l) ∧ Below W.heap.size W w'
set_option maxHeartbeats 3200000 in
theorem encode_nat (a b c : Nat) (A : Option Addr) (n m : Nat) (d : List UInt8) (w : World) (ha : a ≤ 9223372036854775807) (hb' : b ≤ 9223372036854775807) (hc' : c ≤ 9223372036854775807) (hr : Rd w T 1 A n (bs d)) (hn : n ≤ 1000000) (htab : TabW w) :
    Calls Tryz.prog 196 #[.agg #[.int .i64 a, .int .i64 b, .int .i64 c, .slice A n m]] w (BytesPost w (encN a b c d)) := by
  obtain ⟨W0, hW0⟩ : ∃ W0, W0 = w.alloc (.cells #[.int .i64 a, .int .i64 b, .int .i64 c, .slice A n m] 62) := ⟨_, rfl⟩
  have b0 : Bx W0 w.heap.size #[.int .i64 a, .int .i64 b, .int .i64 c, .slice A n m] := by subst hW0; exact Bx.new _ _ _ rfl
  have r0 : Rd W0 (· < W0.heap.size) 1 A n (bs d) := by subst hW0; exact ((hr.alloc _).lt (by omega)).mono fun b hb => hb.2
  have hbe : Below w.heap.size w W0 := by subst hW0; exact (Below.refl _ _).alloc (Nat.le_refl _) _
  have t0 : TabW W0 := htab.below hbe (Nat.le_refl _)
  have hz : W0.heap.size = w.heap.size + 1 := by subst hW0; simp
  have hdn : d.length = n := hr.blen
  have sof : ∀ W, Below W0.heap.size W0 W → (Below W0.heap.size W0 W ∧ W.cell? ⟨w.heap.size, 0, none⟩ = some (.int .i64 a) ∧ W.cell? ⟨w.heap.size, 1, none⟩ = some (.int .i64 b) ∧ W.cell? ⟨w.heap.size, 2, none⟩ = some (.int .i64 c) ∧ W.cell? ⟨w.heap.size, 3, none⟩ = some (.slice A n m)) :=
    fun W h => ⟨h, (b0.under h (by omega)).c 0, (b0.under h (by omega)).c 1, (b0.under h (by omega)).c 2, (b0.under h (by omega)).c 3⟩
  have s0 := sof _ (Below.refl _ _)
  have la := uintL_len a (by omega)
  have lb := uintL_len b (by omega)
  have lc := uintL_len c (by omega)
  have ld : (bytesL d).length ≤ n + 22 := by
    have h := dig_size d.length (by omega)
    have : (Lib.decDigits d.length).length ≤ 20 := h
    simp [bytesL]
    omega
  have hnew : ∀ W, Below W0.heap.size W0 W → Calls Tryz.prog 137 #[] W (fun e w' => e = .returned (.pointer (some ⟨W.heap.size, 0, none⟩)) ∧ Wr w' W0.heap.size W.heap.size [] ∧ Below W0.heap.size W0 w') := fun W hb => (new_any W).mono (by
    rintro e w' ⟨rfl, h, h2⟩
    obtain ⟨A, n, c, k1, k2, k3⟩ := h.ex
    refine ⟨rfl, ⟨A, n, c, k1, hb.size, ?_⟩, hb.trans (h2.mono hb.size)⟩
    refine ⟨k3.1, ?_⟩
    rcases k3.2 with hn | ⟨g, cap, cur, hv, hB, rest⟩
    · exact .inl hn
    · exact .inr ⟨g, cap, cur, hv, Nat.le_trans hb.size hB, rest⟩)
  have huint : ∀ W p l (u : Nat), Below W0.heap.size W0 W → Wr W W0.heap.size p l → u ≤ 9223372036854775807 → l.length ≤ 100 → Calls Tryz.prog 138 #[.pointer (some ⟨p, 0, none⟩), .int .u64 (u : Int)] W (fun e w' => e = .returned (.pointer (some ⟨p, 0, none⟩)) ∧ Wr w' W0.heap.size p (l ++ uintL u) ∧ Below W0.heap.size W0 w') := fun W p l u hb h hu hl => (uint_any W0.heap.size p l u (by omega) W h (by omega) (t0.below hb (Nat.le_refl _)) hb.size).mono (by
    rintro e w' ⟨rfl, h, h2⟩
    exact ⟨rfl, h, hb.trans h2⟩)
  have hbytes : ∀ W p l, Below W0.heap.size W0 W → Wr W W0.heap.size p l → l.length ≤ 100 → Calls Tryz.prog 183 #[.pointer (some ⟨p, 0, none⟩), .slice A n m] W (fun e w' => e = .returned (.pointer (some ⟨p, 0, none⟩)) ∧ Wr w' W0.heap.size p (l ++ bytesL d) ∧ Below W0.heap.size W0 w') := fun W p l hb h hl => (bytes_any W0.heap.size p l d A n m W h (by omega) (t0.below hb (Nat.le_refl _)) hb.size (r0.keep fun q h1 h2 => hb.block q h1) (by omega)).mono (by
    rintro e w' ⟨rfl, h, h2⟩
    exact ⟨rfl, h, hb.trans h2⟩)
  have hdone : ∀ W p l, Below W0.heap.size W0 W → Wr W W0.heap.size p l → l.length ≤ 2000000 → Calls Tryz.prog 139 #[.pointer (some ⟨p, 0, none⟩)] W (fun e w' => ∃ A N c, e = .returned (.slice A N c) ∧ w'.ownsRow w.heap.size 5 1 (.slice A N c) N (bs l) ∧ Below W0.heap.size W0 w') := fun W p l hb h hl => (done_any W0.heap.size p l W h (by omega)).mono (by
    rintro e w' ⟨A, c, rfl, k3, h2⟩
    have hs := hb.size
    refine ⟨A, _, c, rfl, ⟨k3.1, ?_⟩, hb.trans (h2.mono hb.size)⟩
    rcases k3.2 with hn | ⟨g, cap, cur, hv, hB, rest⟩
    · exact .inl hn
    · exact .inr ⟨g, cap, cur, hv, by omega, rest⟩)
  have wa : IntKind.u64.wrap (a : Int) = (a : Int) := by rw [IntKind.wrap_u64]; omega
  have wb : IntKind.u64.wrap (b : Int) = (b : Int) := by rw [IntKind.wrap_u64]; omega
  have wc : IntKind.u64.wrap (c : Int) = (c : Int) := by rw [IntKind.wrap_u64]; omega
  have Hnew := Lib.hid hnew
  have Huint := Lib.hid huint
  have Hbytes := Lib.hid hbytes
  have Hdone := Lib.hid hdone
  have HW := Lib.hid hW0
  have Hbe := Lib.hid hbe
  clear hW0 b0 r0 hr htab t0 hz hdn hnew huint hbytes hdone hbe
  go_enter Tryz.func196, Tryz.ntmps196
  go_upto_region 1 with (fail)
  rw [← HW.out]
  go_split_ands
  go_region_held3 (fun W => Below W0.heap.size W0 W ∧ W.cell? ⟨w.heap.size, 0, none⟩ = some (.int .i64 a) ∧ W.cell? ⟨w.heap.size, 1, none⟩ = some (.int .i64 b) ∧ W.cell? ⟨w.heap.size, 2, none⟩ = some (.int .i64 c) ∧ W.cell? ⟨w.heap.size, 3, none⟩ = some (.slice A n m)) ((refine sof _ ?_; first | exact (Below.refl _ _).drew | assumption | (go_split_ands; assumption))) (first
    | ((with_reducible refine (Hnew.out _ (by go_split_ands; assumption)).mono ?_); rintro e w1 ⟨rfl, h1, k1⟩; replace h1 : Wr w1 W0.heap.size W0.heap.size [] := h1)
    | ((with_reducible refine (Huint.out _ _ _ _ (by go_split_ands; assumption) (by assumption) (by assumption) (by simp only [List.length_append, List.length_nil]; omega)).mono ?_); rintro e w2 ⟨rfl, h2, k2⟩)
    | ((with_reducible refine (Hbytes.out _ _ _ (by go_split_ands; assumption) (by assumption) (by simp only [List.length_append, List.length_nil]; omega)).mono ?_); rintro e w3 ⟨rfl, h3, k3⟩)
    | ((with_reducible refine (Hdone.out _ _ _ (by go_split_ands; assumption) (by assumption) (by simp only [List.length_append, List.length_nil]; omega)).mono ?_); rintro e w4 ⟨A4, N4, c4, rfl, h4, k4⟩))
  all_goals
    go_wp2_with fail
    go_ret
    exact ⟨_, _, _, rfl, h4, Hbe.out.trans (k4.mono Hbe.out.size)⟩
end Go.Proofs.YtmhaahcbmdhinaaGreatDoor
namespace Go.Proofs.YtmhaahcbmdhinaaGreatDoor
set_option linter.unusedVariables false
section
variable {P : Program} {ops : Array Oper} {md : Region.Mode} {w : World}
/-- Each operation behind the n-th waits for one from the n-th on. -/
def hangsB (md : Region.Mode) (ops : Array Oper) (n : Nat) : Bool := (List.range ops.size).all fun t => decide (t ≤ n) || (List.range t).any fun u => decide (n ≤ u) && Region.waitsFor md ops t u
theorem late_n {n : Nat} {listed : Array Bool} (hs : Region.sinkB md ops n = true) (hn : n < ops.size) (inv : HeadInv md ops n listed) :
    ∀ (d i : Nat), n - i = d → i < n → listed.getD i true = false → n ∉ Region.ready md ops listed := by
  intro d
  induction d using Nat.strongRecOn with
  | _ d ih =>
    intro i hd hi hun hr
    obtain ⟨_, on, hon, hall⟩ := mem_ready.1 hr
    obtain ⟨j, hj, hj2⟩ := List.any_eq_true.1 (List.all_eq_true.1 hs i (List.mem_range.2 hi))
    simp only [Bool.and_eq_true, decide_eq_true_eq] at hj2
    obtain ⟨oj, hoj, e, he, hb, hei⟩ := Region.waitsFor_spec hj2.2
    have hjn : j ≤ n := by have := List.mem_range.1 hj; omega
    have hil : listed.getD i false = false := getD_both hun
    by_cases hjt : j = n
    · subst hjt
      obtain rfl : oj = on := Option.some.inj (hoj.symm.trans hon)
      have := hall e he hb
      rw [hei, hil] at this
      cases this
    · by_cases hl : listed.getD j false = true
      · have := inv.closed j oj hoj hl e he hb
        rw [hei, hil] at this
        cases this
      · have hjs : j < listed.size := by rw [inv.size]; omega
        exact ih (n - j) (by omega) j rfl (by omega) (getD_in hjs (by simpa using hl)) hr
theorem late {n : Nat} {listed : Array Bool} (hs : Region.sinkB md ops n = true) (hc : hangsB md ops n = true) (hn : n < ops.size) (inv : HeadInv md ops n listed) {i : Nat} (hi : i < n) (hun : listed.getD i true = false) :
    ∀ t ∈ Region.ready md ops listed, t < n := by
  intro t hr
  rcases Nat.lt_trichotomy t n with h | h | h
  · exact h
  · subst h
    exact absurd hr (late_n hs hn inv _ i rfl hi hun)
  · exfalso
    obtain ⟨_, ot, hot, hall⟩ := mem_ready.1 hr
    have htl : t < ops.size := (Array.getElem?_eq_some_iff.1 hot).1
    have h1 := List.all_eq_true.1 hc t (List.mem_range.2 htl)
    simp only [Bool.or_eq_true, decide_eq_true_eq] at h1
    rcases h1 with h1 | h1
    · omega
    · obtain ⟨u, hu, h2⟩ := List.any_eq_true.1 h1
      simp only [Bool.and_eq_true, decide_eq_true_eq] at h2
      obtain ⟨o', ho', e, he, hb, heu⟩ := Region.waitsFor_spec h2.2
      obtain rfl : o' = ot := Option.some.inj (ho'.symm.trans hot)
      have hut := List.mem_range.1 hu
      have h3 := hall e he hb
      rw [heu, getD_both (inv.tail u h2.1 (by omega))] at h3
      cases h3
/-- One that only reads and may come now may come first. -/
theorem head_first {n i : Nat} {oi : Oper} {v : Value} {L : Array Bool → Act → Prop} (hi : ops[i]? = some oi) (hsel : ∀ (j : Nat) (o : Oper) cs b, ops[j]? = some o → o.op ≠ .select cs b)
    (hs : Region.sinkB md ops n = true) (hc : hangsB md ops n = true) (hn : n < ops.size) (hin : i < n) (hdone : ∀ listed a, L listed a → ∀ j ∈ Region.ready md ops listed, n ≤ j) :
    ∀ (f : Nat) (listed : Array Bool) (a : Act), HeadInv md ops n listed →
      (∀ j oj, ops[j]? = some oj → j ≠ i → listed.getD j true = false → (∀ e ∈ oj.after, Region.binds md e = true → e.on ≠ i) → oi.apart ops oj = true) →
      i ∈ Region.ready md ops listed → YieldsAt P ops w oi v a →
      wpAnyL P md ops w n L f (listed.setIfInBounds i true) (a.put oi.dst v) → wpAnyL P md ops w n L (f + 1) listed a := by
  intro f
  induction f with
  | zero =>
    intro listed a inv _ hr hy H
    have hlt := late hs hc hn inv hin (mem_ready.1 hr).1
    refine ⟨fun h => (by rw [h] at hr; cases hr), fun j hj => ⟨hlt j hj, ?_⟩⟩
    by_cases hji : j = i
    · subst hji
      exact hy.stOp hi H
    · have h1 := hdone _ _ H j (ready_mono hj hji)
      have h2 := hlt j hj
      omega
  | succ f ih =>
    intro listed a inv hap hr hy H
    have hun := (mem_ready.1 hr).1
    have hlt := late hs hc hn inv hin hun
    refine ⟨fun h => (by rw [h] at hr; cases hr), fun j hj => ⟨hlt j hj, ?_⟩⟩
    by_cases hji : j = i
    · subst hji
      exact hy.stOp hi H
    · obtain ⟨hjun, oj, hoj, hall⟩ := mem_ready.1 hj
      have hno : ∀ e ∈ oj.after, Region.binds md e = true → e.on ≠ i := by
        intro e he hb h
        have h1 := hall e he hb
        rw [h, getD_both hun] at h1
        cases h1
      have h2 := stOp_put hoj (hap j oj hoj hji hjun hno) (fun cs b => hsel i oi cs b hi) (fun cs b => hsel j oj cs b hoj) hy (H.2 j (ready_mono hj hji)).2
      refine stOp_mono (fun a' h3 => ih (listed.setIfInBounds j true) a' (inv.set hj (hlt j hj)) (fun k ok hk hki hku hkn => hap k ok hk hki ?_ hkn) (ready_mono hr (Ne.symm hji)) h3.1 ?_) h2
      · by_cases hjk : j = k
        · subst hjk
          exact hjun
        · rwa [getD_set_ne true hjk] at hku
      · rw [Array.setIfInBounds_comm _ _ hji]
        exact h3.2
/-- The flags when k .. k + f - 1 have come. -/
def flags : Nat → Nat → Array Bool → Array Bool
  | 0, _, listed => listed
  | f + 1, k, listed => flags f (k + 1) (listed.setIfInBounds k true)
def goodHead (md : Region.Mode) (ops : Array Oper) (n : Nat) : Nat → Nat → Array Bool → Bool
  | 0, _, listed => (Region.ready md ops listed).all fun j => decide (n ≤ j)
  | f + 1, k, listed => (Region.ready md ops listed).contains k && Region.free md ops listed k && goodHead md ops n f (k + 1) (listed.setIfInBounds k true)
theorem head_lex {n : Nat} {Lq : Act → Prop} (hsel : Region.noSelect ops = true) (hs : Region.sinkB md ops n = true) (hc : hangsB md ops n = true) (hn : n < ops.size) (F : Array Bool) (hF : ∀ j ∈ Region.ready md ops F, n ≤ j) :
    ∀ (l : List Oper) (k : Nat) (listed : Array Bool) (a : Act), (∀ j, j < l.length → l[j]? = ops[k + j]?) → k + l.length = n → HeadInv md ops n listed → flags l.length k listed = F →
    goodHead md ops n l.length k listed = true → wpStill P ops w Lq l a → wpAnyL P md ops w n (fun listed' a' => listed' = F ∧ Lq a') l.length listed a
  | [], k, listed, a, _, hk, _, hf, hB, h => ⟨hf, h⟩
  | o :: l, k, listed, a, hl, hk, inv, hf, hB, h => by
    have h0 : ops[k]? = some o := by simpa using (hl 0 (by simp)).symm
    simp only [List.length_cons, goodHead, Bool.and_eq_true] at hB
    obtain ⟨⟨hr, hfr⟩, hB'⟩ := hB
    have hkn : k < n := by simp only [List.length_cons] at hk; omega
    have hr' : k ∈ Region.ready md ops listed := by simpa using hr
    obtain ⟨v, hy, hK⟩ := yieldsAt_of_stOp h0 (show stOp P ops w k (wpStill P ops w Lq l) a by unfold stOp; simp only [h0]; exact h)
    exact head_first h0 (Region.noSelect_spec hsel) hs hc hn hkn (fun listed' a' hL => by rw [hL.1]; exact hF) l.length listed a inv (Region.free_spec h0 hfr) hr' hy
      (head_lex hsel hs hc hn F hF l (k + 1) _ _ (fun j hj => by have := hl (j + 1) (by simp; omega); simpa [Nat.add_assoc, Nat.add_comm 1 j] using this) (by simp only [List.length_cons] at hk; omega) (inv.set hr' hkn) hf hB' hK)
def readsThenB (md : Region.Mode) (ops : Array Oper) (n : Nat) : Bool :=
  Region.noSelect ops && decide (n < ops.size) && Region.sinkB md ops n && hangsB md ops n && goodHead md ops n n 0 (Array.replicate ops.size false)
theorem goodHead_end {n : Nat} : ∀ (f k : Nat) (listed : Array Bool), goodHead md ops n f k listed = true → ∀ j ∈ Region.ready md ops (flags f k listed), n ≤ j
  | 0, k, listed, h, j, hj => by simpa using List.all_eq_true.1 h j hj
  | f + 1, k, listed, h, j, hj => by
    simp only [goodHead, Bool.and_eq_true] at h
    exact goodHead_end f (k + 1) _ h.2 j hj
theorem wp_region_reads_then {id : Nat} {Q : Exit → Act → World → Prop} {a : Act} {w : World} {l : List Oper} (n : Nat) (hm : P.follows .mixedOrders = true) (hB : readsThenB .any l.toArray n = true)
    (h : wpStill P l.toArray w.drew (fun a' => wpAny P .any l.toArray Q (l.length - n) (flags n 0 (Array.replicate l.length false)) a' w.drew) (l.take n) a) : (Code.region id l.toArray true).wp P Q a w := by
  simp only [readsThenB, Bool.and_eq_true, decide_eq_true_eq] at hB
  obtain ⟨⟨⟨⟨hsel, hn⟩, hs⟩, hc⟩, hg⟩ := hB
  have hn' : n < l.length := by simpa using hn
  have htl : (l.take n).length = n := by simp; omega
  have inv0 : HeadInv .any l.toArray n (Array.replicate l.toArray.size false) :=
    ⟨by simp, fun j oj _ hl => (by rw [getD_replicate_false] at hl; cases hl), fun t _ ht => getD_in (by simpa using ht) (getD_replicate_false _ _)⟩
  have H := head_lex (w := w.drew) (md := .any) hsel hs hc hn _ (goodHead_end n 0 _ hg) (l.take n) 0 _ a (fun j hj => by
    have hj' : j < n := by rw [htl] at hj; exact hj
    simp [hj']) (by simpa using htl) inv0 (by rw [htl]) (by rw [htl]; exact hg) h
  refine wp_region_any hm ?_
  have := wpAny_of_head (Q' := Q) (g := l.length - n) (fun listed a' hL => by
    rw [hL.1]
    have := hL.2
    simpa using this) _ _ _ H
  rw [htl, show n + (l.length - n) = l.length by omega] at this
  simpa using this
end
end Go.Proofs.YtmhaahcbmdhinaaGreatDoor
