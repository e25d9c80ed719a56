/- Walks: entry.Check; whether something can have been kept: (raft.Stored).may.
   Rows of a call's own that are written over in place.
   Rows of entries of a call's own, with their bytes.
   Walks of the law's giveEntry, giveEntries, giveLog.
   Walk of entry.Encode. -/
import Derived.Test.YtlecglmiigdjlaaGreatDoorZb6
import Derived.Test.YtlecglmiigdjlaaGreatDoorZb7
import Derived.Test.YtlecglmiigdjlaaGreatDoorRows
import Derived.Test.YtlecglmiigdjlaaGreatDoorZb0
import Derived.Deep.RegionLaw
import Derived.Lib.SliceRun
import Derived.Laws.OwnMore
import Derived.Test.YtlecglmiigdjlaaGreatDoorZb1
import Derived.Deep.RegionHeld3
import Derived.Deep.DrawnRows
import Derived.Test.YtlecglmiigdjlaaGreatDoorZb2
namespace Go.Proofs.YtlecglmiigdjlaaGreatDoor
open Go.RowKit
set_option maxRecDepth 100000
set_option linter.unusedVariables false
set_option linter.unusedSimpArgs false
theorem Bx.c7 {W : World} {g : Nat} {a b c d e f h : Value} (hx : Bx W g #[a, b, c, d, e, f, h]) : W.cell? ⟨g, 0, none⟩ = some a ∧ W.cell? ⟨g, 1, none⟩ = some b ∧ W.cell? ⟨g, 2, none⟩ = some c ∧ W.cell? ⟨g, 3, none⟩ = some d ∧ W.cell? ⟨g, 4, none⟩ = some e ∧ W.cell? ⟨g, 5, none⟩ = some f ∧ W.cell? ⟨g, 6, none⟩ = some h :=
  ⟨hx.c 0, hx.c 1, hx.c 2, hx.c 3, hx.c 4, hx.c 5, hx.c 6⟩
theorem echk_any (b t : Int) (A : Option Addr) (n c : Nat) (L : List Er) (w : World) {ok : Nat → Prop} (hr : Rd w ok 4 A n (flat ecell L)) (hw : Wel L) (hn : n ≤ 1000000) :
    Calls Tryz.prog 116 #[.agg #[.int .i64 b, .int .i64 t, .slice A n c]] w fun e w' => e = .returned (if lmay b t (L.map en) then .nilIface else .iface 69 (.int .i64 1)) ∧ Below w.heap.size w w' := by
  have hm := fun W (hW : Below w.heap.size w W) => may_any b t A n c L W (hr.below hW) hw hn
  generalize lmay b t (L.map en) = q at hm ⊢
  have Hm := Lib.hid hm
  clear hm hr hw
  rcases q with _ | _
  all_goals
    go_enter Tryz.func116, Tryz.ntmps116
    go_wp2_with fail
    refine (Hm.out _ ((Below.refl _ _).alloc (Nat.le_refl _) _)).mono ?_
    rintro e w1 ⟨rfl, hb1⟩
    have hb2 := ((Below.refl w.heap.size w).alloc (Nat.le_refl _) (.cells #[.int .i64 b, .int .i64 t, .slice A n c] 31)).trans (hb1.mono (by simp))
    have Hb2 := Lib.hid hb2
    clear hb1 hb2
    go_wp2_with fail
    go_ret
    exact ⟨rfl, Hb2.out⟩
/-- Whether something can have been kept. -/
def smay (tm vt b t : Int) (L : List Er) (cf : List Int) : Bool :=
  lmay b t (L.map en) && cmay cf && rdok L && decide (lstB t (L.map en) ≤ tm) && decide (tm ≤ 1099511627776) && decide (0 ≤ vt) && decide (vt ≤ 64)
abbrev stA (tm vt b t : Int) (A : Option Addr) (n c : Nat) (C : Option Addr) (nc cc : Nat) (S : Option Addr) (ns cs : Nat) : Value :=
  .agg #[.int .i64 tm, .int .i64 vt, .int .i64 b, .int .i64 t, .slice A n c, .slice C nc cc, .slice S ns cs]
set_option maxHeartbeats 3200000 in
theorem smay_any (tm vt b t : Int) (A : Option Addr) (n c : Nat) (L : List Er) (C : Option Addr) (nc cc : Nat) (cf : List Int) (S : Option Addr) (ns cs : Nat) (w : World)
    (hr : Rd w T 4 A n (flat ecell L)) (hd : Dat w L) (hw : Wel L) (hn : n ≤ 1000000) (hc : Rd w T 1 C nc (ii cf)) (hnc : nc ≤ 1000000) (hev : EvW w w.heap.size) :
    Calls Tryz.prog 93 #[stA tm vt b t A n c C nc cc S ns cs] w (BoolPost w (smay tm vt b t L cf)) := by
  obtain ⟨W0, hW0⟩ : ∃ W0, W0 = w.alloc (.cells #[.int .i64 tm, .int .i64 vt, .int .i64 b, .int .i64 t, .slice A n c, .slice C nc cc, .slice S ns cs] 35) := ⟨_, rfl⟩
  have b0 : Bx W0 w.heap.size #[.int .i64 tm, .int .i64 vt, .int .i64 b, .int .i64 t, .slice A n c, .slice C nc cc, .slice S ns cs] := by subst hW0; exact Bx.new _ _ _ rfl
  have hbe : Below w.heap.size w W0 := by subst hW0; exact (Below.refl _ _).alloc (Nat.le_refl _) _
  have hz : w.heap.size ≤ W0.heap.size := hbe.size
  have hck := echk_any b t A n c L W0 (hr.below hbe) hw hn
  have hcc := fun W (h : Below W0.heap.size W0 W) => chk_any C nc cc cf W ((hc.below hbe).below h) hnc
  have hrd := fun W (h : Below W0.heap.size W0 W) => read_ok A n c L W ((hr.below hbe).below h) ((hd.below hbe).below h) hn (((hev.below hbe (Nat.le_refl _)).below h hz).mono (Nat.le_trans hz h.size))
  have hla := fun W (h : Below W0.heap.size W0 W) (hm : lmay b t (L.map en) = true) => Last_any b t A n c L W ((hr.below hbe).below h) hw hm hn
  obtain ⟨q, hq⟩ : ∃ q, lmay b t (L.map en) = q := ⟨_, rfl⟩
  obtain ⟨y, hy⟩ : ∃ y, lstB t (L.map en) = y := ⟨_, rfl⟩
  have hS : smay tm vt b t L cf = (q && cmay cf && rdok L && decide (y ≤ tm) && decide (tm ≤ 1099511627776) && decide (0 ≤ vt) && decide (vt ≤ 64)) := by unfold smay; rw [hq, hy]
  rw [hq] at hck hla
  rw [hy] at hla
  generalize lstA b (L.map en) = x at hla
  rw [hS]
  generalize cmay cf = p at hcc
  generalize rdok L = r at hrd
  obtain ⟨c0, c1, c2, c3, c4, c5, c6⟩ := b0.c7
  have HW := Lib.hid hW0
  have B := Lib.hid (And.intro b0 hbe)
  have Hck := Lib.hid hck
  have Hcc := Lib.hid hcc
  have Hrd := Lib.hid hrd
  have Hla := Lib.hid hla
  clear hW0 b0 hbe hz hck hcc hrd hla hr hd hw hc hev hS hq hy
  unfold stA
  go_enter Tryz.func93, Tryz.ntmps93
  go_upto_region 1 with (fail)
  rw [← HW.out]
  cases q
  · go_wp2_with fail
    refine Hck.out.mono ?_
    rintro e w1 ⟨rfl, hb1⟩
    have Hb1 := Lib.hid (B.out.2.trans (hb1.mono B.out.2.size))
    clear hb1 c0 c1 c2 c3 c4 c5 c6
    go_wp2_with fail
    go_ret
    exact ⟨ret_bool (by simp), Hb1.out⟩
  go_wp2_with fail
  refine Hck.out.mono ?_
  rintro e w1 ⟨rfl, hb1⟩
  have K1 := Lib.hid hb1
  clear c0 c1 c2 c3 c4 c5 c6
  obtain ⟨c0, c1, c2, c3, c4, c5, c6⟩ := (B.out.1.below hb1).c7
  clear hb1
  go_wp2_with fail
  refine (Hcc.out w1 K1.out).mono ?_
  rintro e w2 ⟨rfl, rfl⟩
  cases p
  · go_wp2_with fail
    go_ret
    exact ⟨ret_bool (by simp), B.out.2.trans (K1.out.mono B.out.2.size)⟩
  go_wp2_with fail
  refine (Hrd.out _ K1.out).mono ?_
  rintro e w3 ⟨rfl, hb3⟩
  have K3 := Lib.hid (K1.out.trans (hb3.mono K1.out.size))
  clear c0 c1 c2 c3 c4 c5 c6 hb3
  obtain ⟨c0, c1, c2, c3, c4, c5, c6⟩ := (B.out.1.below K3.out).c7
  cases r
  · go_wp2_with fail
    go_ret
    exact ⟨ret_bool (by simp), B.out.2.trans (K3.out.mono B.out.2.size)⟩
  go_wp2_with fail
  refine (Hla.out _ K3.out (by trivial)).mono ?_
  rintro e w4 ⟨rfl, hb4⟩
  have K4 := Lib.hid (K3.out.trans (hb4.mono K3.out.size))
  clear c0 c1 c2 c3 c4 c5 c6 hb4
  obtain ⟨c0, c1, c2, c3, c4, c5, c6⟩ := (B.out.1.below K4.out).c7
  have F := Lib.hid (B.out.2.trans (K4.out.mono B.out.2.size))
  by_cases h1 : y ≤ tm
  · by_cases h2 : tm ≤ 1099511627776
    · by_cases h3 : 0 ≤ vt
      · by_cases h4 : vt ≤ 64
        · have H := Lib.hid (show (true && true && true && decide (y ≤ tm) && decide (tm ≤ 1099511627776) && decide (0 ≤ vt) && decide (vt ≤ 64)) = true by simp [h1, h2, h3, h4])
          go_wp2_with fail
          go_ret
          exact ⟨ret_bool (by rw [H.out]), F.out⟩
        · have H := Lib.hid (show (true && true && true && decide (y ≤ tm) && decide (tm ≤ 1099511627776) && decide (0 ≤ vt) && decide (vt ≤ 64)) = false by simp [h4])
          have h4d : decide (vt ≤ 64) = false := decide_eq_false h4
          go_wp2_with fail
          go_ret
          exact ⟨ret_bool (by rw [H.out]), F.out⟩
      · have H := Lib.hid (show (true && true && true && decide (y ≤ tm) && decide (tm ≤ 1099511627776) && decide (0 ≤ vt) && decide (vt ≤ 64)) = false by simp [h3])
        have h3d : decide (0 ≤ vt) = false := decide_eq_false h3
        go_wp2_with fail
        go_ret
        exact ⟨ret_bool (by rw [H.out]), F.out⟩
    · have H := Lib.hid (show (true && true && true && decide (y ≤ tm) && decide (tm ≤ 1099511627776) && decide (0 ≤ vt) && decide (vt ≤ 64)) = false by simp [h2])
      have h2d : decide (tm ≤ 1099511627776) = false := decide_eq_false h2
      go_wp2_with fail
      go_ret
      exact ⟨ret_bool (by rw [H.out]), F.out⟩
  · have H := Lib.hid (show (true && true && true && decide (y ≤ tm) && decide (tm ≤ 1099511627776) && decide (0 ≤ vt) && decide (vt ≤ 64)) = false by simp [h1])
    have h1d : decide (y ≤ tm) = false := decide_eq_false h1
    go_wp2_with fail
    go_ret
    exact ⟨ret_bool (by rw [H.out]), F.out⟩
end Go.Proofs.YtlecglmiigdjlaaGreatDoor
namespace Go.Proofs.YtlecglmiigdjlaaGreatDoor
open Go.RowKit
set_option linter.unusedVariables false
set_option linter.unusedSimpArgs false
set_option maxRecDepth 100000
/-- A list with others laid over it from o on. -/
def lays (xs : List Value) (o : Nat) (vs : List Value) : List Value := match vs with
  | [] => xs
  | v :: vs => lays (xs.set o v) (o + 1) vs
theorem lays_length (vs : List Value) : ∀ (xs : List Value) (o : Nat), (lays xs o vs).length = xs.length := by
  induction vs with
  | nil => intro xs o; rfl
  | cons v vs ih => intro xs o; rw [lays, ih, List.length_set]
theorem lays_take (vs : List Value) : ∀ (xs : List Value) (o k : Nat), k ≤ o → (lays xs o vs).take k = xs.take k := by
  induction vs with
  | nil => intro xs o k _; rfl
  | cons v vs ih =>
    intro xs o k hk
    rw [lays, ih _ _ _ (by omega), List.take_set_of_le hk]
theorem lays_eq (vs : List Value) : ∀ (xs : List Value) (o : Nat), o + vs.length ≤ xs.length → lays xs o vs = xs.take o ++ vs ++ xs.drop (o + vs.length) := by
  induction vs with
  | nil => intro xs o _; simp [lays]
  | cons v vs ih =>
    intro xs o h
    simp only [List.length_cons] at h
    rw [lays, ih _ _ (by rw [List.length_set]; omega), List.take_add_one, List.take_set_of_le (Nat.le_refl _), List.getElem?_set_self (by omega)]
    rw [List.drop_set_of_lt (by omega)]
    simp only [Option.toList_some, List.append_assoc, List.cons_append, List.nil_append, List.length_cons]
    rw [show o + 1 + vs.length = o + (vs.length + 1) by omega]
theorem own_setCells {w : World} {B : Nat} {e : TypeId} {size g n c : Nat} {xs : List Value} (vs : List Value) : ∀ (w : World) (xs : List Value) (o : Nat), w.ownsRow B e size (.slice (some ⟨g, 0, none⟩) n c) n xs → (w.setCells g o vs).ownsRow B e size (.slice (some ⟨g, 0, none⟩) n c) n (lays xs o vs) ∧ w.grownBy (w.setCells g o vs) (some g) := by
  induction vs with
  | nil => intro w xs o h; exact ⟨h, World.grownBy.refl _ _⟩
  | cons v vs ih =>
    intro w xs o h
    have h1 := h.stored o v
    have h2 := ih _ _ (o + 1) h1.1
    refine ⟨h2.1, ?_⟩
    exact ⟨h2.2.os.trans h1.2.os, h2.2.tape.trans h1.2.tape, h2.2.output.trans h1.2.output, Nat.le_trans h1.2.size h2.2.size, fun k hk hne => (h2.2.block k (Nat.lt_of_lt_of_le hk h1.2.size) hne).trans (h1.2.block k hk hne)⟩
/-- A row is a shorter row. -/
theorem own_take {w : World} {B : Nat} {e : TypeId} {size g n c m : Nat} {xs : List Value} (h : w.ownsRow B e size (.slice (some ⟨g, 0, none⟩) n c) n xs) (hm : m ≤ n) : w.ownsRow B e size (.slice (some ⟨g, 0, none⟩) m c) m (xs.take (m * size)) := by
  have hle := Nat.mul_le_mul_right size hm
  refine ⟨by rw [List.length_take, h.1]; omega, ?_⟩
  rcases h.2 with ⟨h', _⟩ | ⟨g', cap', cur, h', hb, hg, hnc, hcm, hcs, htake⟩
  · simp at h'
  · simp only [Value.slice.injEq, Option.some.injEq, Addr.mk.injEq, and_true, true_and] at h'
    obtain ⟨rfl, rfl⟩ := h'
    refine .inr ⟨g, c, cur, rfl, hb, hg, by omega, hcm, hcs, ?_⟩
    rw [← htake, List.take_take]
    congr 1
    omega
theorem own_isSome {w : World} {B : Nat} {e : TypeId} {size g n c : Nat} {xs : List Value} (h : w.ownsRow B e size (.slice (some ⟨g, 0, none⟩) n c) n xs) (j : Nat) (hj : j < c * size) : (w.cell? ⟨g, j, none⟩).isSome = true := by
  rcases h.2 with ⟨h', _⟩ | ⟨g', cap', cur, h', hb, hg, hnc, hcm, hcs, htake⟩
  · simp at h'
  · simp only [Value.slice.injEq, Option.some.injEq, Addr.mk.injEq, and_true, true_and] at h'
    obtain ⟨rfl, rfl⟩ := h'
    rw [cell_of_row w g j cur e (0, 0) hg]
    have : j < cur.size := by omega
    simp [this]
theorem run_clear_one {P : Program} (w : World) (t e ty : TypeId) (z : Value) (vs : List Value) (ht : P.underlying t = some (.slice e)) (hv : ∀ w, (zeroValue e).run P w = .ok z w) (hz : (Builtin.zeroCells z.cells 1).toList = vs) (h1 : ∀ v ∈ vs, v.oneCell' = true) (b o c : Nat)
    (hc : ∀ j, j < vs.length → (w.cell? ⟨b, o + j, none⟩).isSome = true) (hf : ∀ j, j < vs.length → w.frozen? ⟨b, o + j, none⟩ = false) :
    (Builtin.clear_ #[t] ty #[.slice (some ⟨b, o, none⟩) 1 c]).run P w = .ok (.tuple #[]) (w.setCells b o vs) := by
  have hst := run_storeCells_cells (P := P) b o vs 0 w (by simpa using hc) (by simpa using hf) h1
  simp only [Nat.add_zero] at hst
  simp [Builtin.clear_, run_underlying ht, hv, hz, hst]
end Go.Proofs.YtlecglmiigdjlaaGreatDoor
namespace Go.Proofs.YtlecglmiigdjlaaGreatDoor
open Go.RowKit
set_option maxRecDepth 100000
set_option linter.unusedVariables false
set_option linter.unusedSimpArgs false
theorem ent_elem : Elem Tryz.prog 143 (.agg #[.int .i64 0, .int .i64 0, .int .i64 0, .slice none 0 0]) 4 48 := by unfold Elem; kernel_rfl
theorem ecell_one (l : List Er) : ∀ u ∈ flat ecell l, u.oneCell' = true := by
  induction l with
  | nil => intro u hu; cases hu
  | cons x l ih =>
    intro u hu
    rw [flat_cons, List.mem_append] at hu
    rcases hu with hu | hu
    · simp only [ecell, List.mem_cons, List.not_mem_nil, or_false] at hu
      rcases hu with rfl | rfl | rfl | rfl <;> rfl
    · exact ih u hu
/-- A literal of one row. -/
theorem Rd.lit4 (w : World) {cs : Array Value} (t : TypeId) {fr : Nat × Nat} (hk : cs.size = 4) : Rd (w.alloc (.cells cs t fr)) T 4 (some ⟨w.heap.size, 0, none⟩) 1 cs.toList :=
  ⟨by simp [hk], fun _ => ⟨_, rfl, trivial, fun j u hu => World.news_of_block (heap_alloc_new w _) j u hu⟩⟩
def DatO (w : World) (B : Nat) (A : Option Addr) (l : List Er) : Prop := ∀ y ∈ l, Rd w (fun b => B ≤ b ∧ A.map (·.block) ≠ some b) 1 y.A y.n (bs y.d) ∧ y.n ≤ y.m ∧ y.m ≤ maxLen
structure Ro (W : World) (B : Nat) (A : Option Addr) (n c : Nat) (l : List Er) : Prop where
  ow : W.ownsRow B 143 4 (.slice A n c) n (flat ecell l)
  dt : DatO W B A l
section
variable {W W' : World} {B n c : Nat} {A : Option Addr} {l : List Er}
theorem Ro.nil (W : World) (B : Nat) : Ro W B none 0 0 [] := ⟨World.ownsRow_nil _ _ _ _, by intro y hy; cases hy⟩
theorem Ro.below (h : Ro W B A n c l) (hb : Below W.heap.size W W') : Ro W' B A n c l := ⟨own_below h.ow hb, fun y hy => ⟨(h.dt y hy).1.below hb, (h.dt y hy).2⟩⟩
theorem Ro.alloc (h : Ro W B A n c l) (o : Obj) : Ro (W.alloc o) B A n c l := h.below ((Below.refl _ _).alloc (Nat.le_refl _) o)
theorem Ro.drew (h : Ro W B A n c l) : Ro W.drew B A n c l := h.below (Below.refl _ _).drew
theorem Ro.rd (h : Ro W B A n c l) : Rd W T 4 A n (flat ecell l) := (Rd.of_own h.ow).any
theorem Ro.dat (h : Ro W B A n c l) : Dat W l := fun y hy => ⟨(h.dt y hy).1.any, (h.dt y hy).2⟩
theorem Ro.dat_from (h : Ro W B A n c l) : ∀ y ∈ l, Rd W (B ≤ ·) 1 y.A y.n (bs y.d) ∧ y.n ≤ y.m ∧ y.m ≤ maxLen := fun y hy => ⟨(h.dt y hy).1.mono fun b hb => hb.1, (h.dt y hy).2⟩
theorem Ro.len (h : Ro W B A n c l) : l.length = n := h.rd.flen ecell_len (by omega)
/-- An entry more, by append. -/
theorem Ro.push {y : Er} {k c2 : Nat} {A2 : Option Addr} {W2 : World} (h : Ro W B A n c l) (hy : Rd W (fun b => B ≤ b ∧ A.map (·.block) ≠ some b) 1 y.A y.n (bs y.d)) (hy1 : y.n ≤ y.m) (hy2 : y.m ≤ maxLen)
    (hk : k = n + 1) (ho : W2.ownsRow B 143 4 (.slice A2 k c2) k (flat ecell l ++ ecell y)) (hg : W.grownBy W2 (A.map (·.block))) (hat : A2.map (·.block) = A.map (·.block) ∨ A2.map (·.block) = some W.heap.size) :
    Ro W2 B A2 (n + 1) c2 (l ++ [y]) := by
  subst hk
  refine ⟨by rw [flat_append, flat_one]; exact ho, fun z hz => ?_⟩
  have hz' : Rd W (fun b => B ≤ b ∧ A.map (·.block) ≠ some b) 1 z.A z.n (bs z.d) ∧ z.n ≤ z.m ∧ z.m ≤ maxLen := by
    rcases List.mem_append.1 hz with hz | hz
    · exact h.dt z hz
    · obtain rfl := List.mem_singleton.1 hz
      exact ⟨hy, hy1, hy2⟩
  refine ⟨?_, hz'.2⟩
  have h1 := (hz'.1.lt (by omega)).grown hg (fun g hg' h2 => h2.1.2 hg')
  refine h1.mono fun b hb => ?_
  refine ⟨hb.1.1, ?_⟩
  rcases hat with e | e
  · rw [e]; exact hb.1.2
  · rw [e]; intro e2; injection e2 with e2; omega
/-- The first m of them. -/
theorem Ro.take {m : Nat} (h : Ro W B A n c l) (hm : m ≤ n) (hA : A = none ∨ ∃ g, A = some ⟨g, 0, none⟩) : Ro W B A m c (l.take m) := by
  refine ⟨?_, fun z hz => h.dt z (List.mem_of_mem_take hz)⟩
  rcases hA with rfl | ⟨g, rfl⟩
  · have hn : n = 0 := h.rd.nil_of_none.1
    obtain rfl : m = 0 := by omega
    have := h.ow
    subst hn
    rw [List.take_zero]
    have hl := h.len
    rw [List.eq_nil_of_length_eq_zero hl] at this
    exact this
  · rw [flat_take ecell_len]
    exact own_take h.ow hm
theorem Ro.form (h : Ro W B A n c l) : A = none ∨ ∃ g, A = some ⟨g, 0, none⟩ := by
  rcases h.ow.2 with ⟨h', h''⟩ | ⟨g', _, _, h', _⟩
  · exact .inl (by injection h')
  · injection h' with h' _ _
    exact .inr ⟨g', h'⟩
end
end Go.Proofs.YtlecglmiigdjlaaGreatDoor
namespace Go.Proofs.YtlecglmiigdjlaaGreatDoor
open Go.RowKit
set_option maxRecDepth 100000
set_option linter.unusedVariables false
set_option linter.unusedSimpArgs false
attribute [local go_sem ↓] Go.wp_at_zero Go.wp_at_succ
theorem own_cap {w : World} {base : Nat} {e : TypeId} {size n c : Nat} {A : Option Addr} {xs : List Value} (h : w.ownsRow base e size (.slice A n c) n xs) : n ≤ c ∧ c ≤ maxLen := by
  obtain ⟨A', c', hv, h1, h2⟩ := own_form h
  injection hv with _ _ hv
  subst hv
  exact ⟨h1, h2⟩
def GivePost (W : World) (x : Er) (e : Ending) (w' : World) : Prop :=
  ∃ A m, e = .returned (.agg #[.int .i64 x.a, .int .i64 x.b, .int .i64 x.c, .slice A x.n m]) ∧ Rd w' (W.heap.size ≤ ·) 1 A x.n (bs x.d) ∧ x.n ≤ m ∧ m ≤ maxLen ∧ Below W.heap.size W w'
set_option maxHeartbeats 3200000 in
theorem give1_any (x : Er) (w : World) (hr : Rd w T 1 x.A x.n (bs x.d)) (hn : x.n ≤ 1000000) :
    Calls Tryz.prog 112 #[.agg #[.int .i64 x.a, .int .i64 x.b, .int .i64 x.c, .slice x.A x.n x.m]] w (GivePost w x) := by
  have hr' := hr.lt (by omega)
  obtain ⟨W0, hW0⟩ : ∃ W0, W0 = (w.alloc (.cells #[.int .i64 x.a, .int .i64 x.b, .int .i64 x.c, .slice x.A x.n x.m] 93)).alloc (.cells #[.int .i64 0, .int .i64 0, .int .i64 0, .slice none 0 0] 143) := ⟨_, rfl⟩
  have b0 : Bx W0 w.heap.size #[.int .i64 x.a, .int .i64 x.b, .int .i64 x.c, .slice x.A x.n x.m] := by subst hW0; exact (Bx.new _ _ _ rfl).alloc _
  have F0 : Fr W0 (w.heap.size + 1) 4 W0 := by subst hW0; exact Fr.new (by simp) rfl
  have r0 : Rd W0 (· < w.heap.size) 1 x.A x.n (bs x.d) := by subst hW0; exact ((hr'.mono fun b hb => hb.2).alloc _).alloc _
  have hbe : Below w.heap.size w W0 := by subst hW0; exact ((Below.refl _ _).alloc (Nat.le_refl _) _).alloc (by simp) _
  have hz : W0.heap.size = w.heap.size + 2 := by subst hW0; simp
  have u0 : W0.cell? ⟨w.heap.size, 0, none⟩ = some (.int .i64 x.a) := b0.c 0
  have u1 : W0.cell? ⟨w.heap.size, 1, none⟩ = some (.int .i64 x.b) := b0.c 1
  have u2 : W0.cell? ⟨w.heap.size, 2, none⟩ = some (.int .i64 x.c) := b0.c 2
  have u3 : W0.cell? ⟨w.heap.size, 3, none⟩ = some (.slice x.A x.n x.m) := b0.c 3
  have sof : ∀ W, Fr W0 (w.heap.size + 1) 4 W → (Fr W0 (w.heap.size + 1) 4 W ∧ W.cell? ⟨w.heap.size, 0, none⟩ = some (.int .i64 x.a) ∧ W.cell? ⟨w.heap.size, 1, none⟩ = some (.int .i64 x.b) ∧ W.cell? ⟨w.heap.size, 2, none⟩ = some (.int .i64 x.c) ∧ W.cell? ⟨w.heap.size, 3, none⟩ = some (.slice x.A x.n x.m) ∧ W.cell? ⟨w.heap.size + 1, 0, none⟩ = some (peek W (w.heap.size + 1) 0) ∧ W.cell? ⟨w.heap.size + 1, 1, none⟩ = some (peek W (w.heap.size + 1) 1) ∧ W.cell? ⟨w.heap.size + 1, 2, none⟩ = some (peek W (w.heap.size + 1) 2) ∧ W.cell? ⟨w.heap.size + 1, 3, none⟩ = some (peek W (w.heap.size + 1) 3) ∧ W.frozen? ⟨w.heap.size + 1, 0, none⟩ = false ∧ W.frozen? ⟨w.heap.size + 1, 1, none⟩ = false ∧ W.frozen? ⟨w.heap.size + 1, 2, none⟩ = false ∧ W.frozen? ⟨w.heap.size + 1, 3, none⟩ = false) :=
    fun W F2 => ⟨F2, F2.cell (by omega) u0, F2.cell (by omega) u1, F2.cell (by omega) u2, F2.cell (by omega) u3, F2.pk (by omega), F2.pk (by omega), F2.pk (by omega), F2.pk (by omega), F2.fz _, F2.fz _, F2.fz _, F2.fz _⟩
  have HW := Lib.hid hW0
  have s0 := sof _ F0
  have Hz := Lib.hid hz
  clear hW0 b0 u0 u1 u2 u3 hr hr' hz
  go_enter Tryz.func112, Tryz.ntmps112
  go_upto_region 2 with (fail)
  rw [← HW.out]
  go_split_ands
  go_region_held3 (fun W => Fr W0 (w.heap.size + 1) 4 W ∧ W.cell? ⟨w.heap.size, 0, none⟩ = some (.int .i64 x.a) ∧ W.cell? ⟨w.heap.size, 1, none⟩ = some (.int .i64 x.b) ∧ W.cell? ⟨w.heap.size, 2, none⟩ = some (.int .i64 x.c) ∧ W.cell? ⟨w.heap.size, 3, none⟩ = some (.slice x.A x.n x.m) ∧ W.cell? ⟨w.heap.size + 1, 0, none⟩ = some (peek W (w.heap.size + 1) 0) ∧ W.cell? ⟨w.heap.size + 1, 1, none⟩ = some (peek W (w.heap.size + 1) 1) ∧ W.cell? ⟨w.heap.size + 1, 2, none⟩ = some (peek W (w.heap.size + 1) 2) ∧ W.cell? ⟨w.heap.size + 1, 3, none⟩ = some (peek W (w.heap.size + 1) 3) ∧ W.frozen? ⟨w.heap.size + 1, 0, none⟩ = false ∧ W.frozen? ⟨w.heap.size + 1, 1, none⟩ = false ∧ W.frozen? ⟨w.heap.size + 1, 2, none⟩ = false ∧ W.frozen? ⟨w.heap.size + 1, 3, none⟩ = false) ((refine sof _ ?_; first | exact F0.drew | (go_split_ands; exact Fr.grown (by assumption) hg4 (by simp)) | (go_split_ands; exact Fr.set (Fr.set (Fr.set (Fr.set (by assumption) _ _) _ _) _ _) _ _))) (first
    | (refine step_append_any (news := bs x.d) (c := x.m) _ Tryz.underlying33 u8_elem rfl (by omega) rfl rfl (by simp [Act.eval, Act.put]) (World.ownsRow_nil _ W0.heap.size 5 1) (by simp [Act.eval, Act.put]) r0.drew (bs_one _) (by omega) (Nat.le_refl _) (Nat.zero_add _) (List.nil_append _) ?_; intro A4 c4 w4 hown4 hg4 hat4; have F4 : Fr W0 (w.heap.size + 1) 4 w4 := Fr.grown (by go_split_ands; assumption) hg4 (by simp)))
  all_goals
    have q0 : w4.cell? ⟨w.heap.size + 1, 0, none⟩ = some (peek w4 (w.heap.size + 1) 0) := F4.pk (by omega)
    have q1 : w4.cell? ⟨w.heap.size + 1, 1, none⟩ = some (peek w4 (w.heap.size + 1) 1) := F4.pk (by omega)
    have q2 : w4.cell? ⟨w.heap.size + 1, 2, none⟩ = some (peek w4 (w.heap.size + 1) 2) := F4.pk (by omega)
    have q3 : w4.cell? ⟨w.heap.size + 1, 3, none⟩ = some (peek w4 (w.heap.size + 1) 3) := F4.pk (by omega)
    have FF := Fr.set (Fr.set (Fr.set (Fr.set F4 0 (.int .i64 x.a)) 1 (.int .i64 x.b)) 2 (.int .i64 x.c)) 3 (.slice A4 x.n c4)
    have hz := Hz.out
    go_wp2_with fail
    refine bodyPost_ret (by simp [results, Tryz.results112, go_sem, q0, q1, q2, q3]; rfl) rfl ?_
    have hm := own_cap hown4
    refine ⟨A4, c4, rfl, ?_, hm.1, hm.2, hbe.trans ((FF.to_below (B := w.heap.size) (by omega)))⟩
    have r4 := Rd.of_own hown4
    have hne : ¬ W0.heap.size ≤ w.heap.size + 1 := by omega
    exact ((((r4.setCell (p := ⟨w.heap.size + 1, 0, none⟩) hne _).setCell (p := ⟨w.heap.size + 1, 1, none⟩) hne _).setCell (p := ⟨w.heap.size + 1, 2, none⟩) hne _).setCell (p := ⟨w.heap.size + 1, 3, none⟩) hne _).mono fun b hb => by omega
/-- The same entries, one by one. -/
def Same (L L' : List Er) : Prop := L'.map en = L.map en
theorem Wel.of {W : World} {B n c : Nat} {A : Option Addr} {L L' : List Er} (hw : Wel L) (hs : Same L L') (h : Dat W L') : Wel L' := by
  intro y hy
  have hm : en y ∈ L.map en := by rw [← hs]; exact List.mem_map.2 ⟨y, hy, rfl⟩
  obtain ⟨x, hx, he⟩ := List.mem_map.1 hm
  have hx' := (hw x hx).1
  have e1 : x.a = y.a := congrArg En.a he
  have e2 : x.b = y.b := congrArg En.b he
  have e3 : x.c = y.c := congrArg En.c he
  unfold W64 at hx' ⊢
  rw [e1, e2, e3] at hx'
  exact ⟨hx', ((h y hy).1.blen).symm⟩
def GivesPost (W : World) (n : Nat) (L : List Er) (e : Ending) (w' : World) : Prop :=
  ∃ A c L', e = .returned (.slice A n c) ∧ Ro w' W.heap.size A n c L' ∧ Same L L' ∧ Below W.heap.size W w'
set_option maxHeartbeats 1600000 in
theorem gives_any (A : Option Addr) (n c : Nat) (L : List Er) (w : World) {ok : Nat → Prop} (hr : Rd w ok 4 A n (flat ecell L)) (hd : Dat w L) (hs : ∀ x ∈ L, x.n ≤ 1000000) (hn : n ≤ 1000000) :
    Calls Tryz.prog 73 #[.slice A n c] w (GivesPost w n L) := by
  have Hll := Lib.hid (hr.flen ecell_len (by omega))
  have Hd := Lib.hid hd
  have Hs := Lib.hid hs
  have Hr := Lib.hid hr
  clear hd hs hr
  go_enter Tryz.func73, Tryz.ntmps73
  go_wp2_with fail
  go_loopg [3, 4] n (fun m s3 s4 wr => ∃ (j : Nat) (A' : Option Addr) (c' : Nat) (L' : List Er), m = n - j ∧ j ≤ n ∧ s4 = .int .i64 j ∧ s3 = .slice A' j c' ∧ Ro wr w.heap.size A' j c' L' ∧ Same (L.take j) L' ∧ Below w.heap.size w wr)
  case atStart => exact ⟨0, none, 0, [], by omega, by omega, rfl, rfl, Ro.nil _ _, rfl, Below.refl _ _⟩
  case round =>
    obtain ⟨j, A', c', L', hm, hj, rfl, rfl, hro, hsm, hb⟩ := hrel
    have Hm := Lib.hid hm
    have Ro1 := Lib.hid hro
    have Sm := Lib.hid hsm
    have Hb := Lib.hid hb
    clear hm hro hsm hb
    by_cases hlt : j < n
    · obtain ⟨b, o, x, rfl, _, hbl, hx, c0, c1, c2, c3⟩ := er_cells (Hr.out.below Hb.out) hlt
      have hjI : (j : Int) < n := by omega
      have hdx := (Hd.out x (List.mem_of_getElem? hx)).1.below Hb.out
      have hxn := Hs.out x (List.mem_of_getElem? hx)
      have hg1 := give1_any x wr hdx hxn
      have Hg1 := Lib.hid hg1
      have Hx := Lib.hid hx
      clear hdx hx hg1
      go_wp2_with fail
      refine Hg1.out.mono ?_
      rintro e w2 ⟨A2, m2, rfl, r2, hm1, hm2, hb2⟩
      have ro2 := Ro1.out.below hb2
      have hz2 := hb2.size
      have hz1 := Hb.out.size
      have R2 := Lib.hid r2
      have Ro2 := Lib.hid ro2
      have Hb2 := Lib.hid hb2
      clear r2 ro2 hb2
      go_wp2_with (at_builtin; refine wpList_append_any (news := [.int .i64 x.a, .int .i64 x.b, .int .i64 x.c, .slice A2 x.n m2]) _ Tryz.underlying29 ent_elem rfl (by omega) rfl rfl rfl (Ro2.out.alloc _).ow rfl (show Rd (w2.alloc (.cells #[.int .i64 x.a, .int .i64 x.b, .int .i64 x.c, .slice A2 x.n m2] 143)) T 4 (some ⟨w2.heap.size, 0, none⟩) 1 [.int .i64 x.a, .int .i64 x.b, .int .i64 x.c, .slice A2 x.n m2] from (Rd.lit4 _ _ rfl)) (by intro u hu; simp only [List.mem_cons, List.not_mem_nil, or_false] at hu; rcases hu with rfl | rfl | rfl | rfl <;> rfl) (by omega) (by simp; omega) rfl rfl ?_; intro A3 c3' w3 hown3 hg3 hat3)
      have hpush := (Ro2.out.alloc (.cells #[.int .i64 x.a, .int .i64 x.b, .int .i64 x.c, .slice A2 x.n m2] 143)).push (y := ⟨x.a, x.b, x.c, A2, x.n, m2, x.d⟩) ((R2.out.alloc _).mono fun b hb => ⟨by omega, fun e => by have := own_lt Ro1.out.ow b e; omega⟩) hm1 hm2 rfl hown3 hg3 hat3
      have hsm2 : Same (L.take (j + 1)) (L' ++ [⟨x.a, x.b, x.c, A2, x.n, m2, x.d⟩]) := by
        unfold Same
        rw [List.take_add_one, Hx.out, List.map_append, List.map_append, Sm.out]
        rfl
      have hb3 := (((Hb.out.trans (Hb2.out.mono Hb.out.size)).alloc (by omega) (.cells #[.int .i64 x.a, .int .i64 x.b, .int .i64 x.c, .slice A2 x.n m2] 143))).grown hg3 (by simp; omega) (fun q hq => (own_lt Ro1.out.ow q hq).1)
      go_roundg (n - (j + 1))
      case measure => have := Hm.out; omega
      case rel => exact ⟨j + 1, A3, c3', _, rfl, by omega, by go_num, rfl, hpush, hsm2, hb3⟩
    · obtain rfl : j = n := by omega
      go_wp2_with fail
      go_ret
      exact ⟨A', c', L', rfl, Ro1.out, by have := Sm.out; rwa [List.take_of_length_le (Nat.le_of_eq Hll.out)] at this, Hb.out⟩
def LogPost (W : World) (b t : Int) (n : Nat) (L : List Er) (e : Ending) (w' : World) : Prop :=
  ∃ A c L', e = .returned (.agg #[.int .i64 b, .int .i64 t, .slice A n c]) ∧ Rd w' T 4 A n (flat ecell L') ∧ Dat w' L' ∧ Same L L' ∧ n ≤ c ∧ c ≤ maxLen ∧ Below W.heap.size W w'
set_option maxHeartbeats 3200000 in
theorem giveLog_any (b t : Int) (A : Option Addr) (n c : Nat) (L : List Er) (w : World) (hr : Rd w T 4 A n (flat ecell L)) (hd : Dat w L) (hs : ∀ x ∈ L, x.n ≤ 1000000) (hn : n ≤ 1000000) :
    Calls Tryz.prog 38 #[.agg #[.int .i64 b, .int .i64 t, .slice A n c]] w (LogPost w b t n L) := by
  have hr' := hr.lt (by omega)
  obtain ⟨W0, hW0⟩ : ∃ W0, W0 = (w.alloc (.cells #[.int .i64 b, .int .i64 t, .slice A n c] 48)).alloc (.cells #[.int .i64 0, .int .i64 0, .slice none 0 0] 31) := ⟨_, rfl⟩
  have b0 : Bx W0 w.heap.size #[.int .i64 b, .int .i64 t, .slice A n c] := by subst hW0; exact (Bx.new _ _ _ rfl).alloc _
  have F0 : Fr W0 (w.heap.size + 1) 3 W0 := by subst hW0; exact Fr.new (by simp) rfl
  have r0 : Rd W0 (· < w.heap.size) 4 A n (flat ecell L) := by subst hW0; exact ((hr'.mono fun b hb => hb.2).alloc _).alloc _
  have d0 : ∀ x ∈ L, Rd W0 (· < w.heap.size) 1 x.A x.n (bs x.d) ∧ x.n ≤ x.m ∧ x.m ≤ maxLen := by
    subst hW0
    exact fun x hx => ⟨(((((hd x hx).1.lt (by omega)).mono fun b hb => hb.2).alloc _).alloc _), (hd x hx).2⟩
  have hbe : Below w.heap.size w W0 := by subst hW0; exact ((Below.refl _ _).alloc (Nat.le_refl _) _).alloc (by simp) _
  have hz : W0.heap.size = w.heap.size + 2 := by subst hW0; simp
  have u0 : W0.cell? ⟨w.heap.size, 0, none⟩ = some (.int .i64 b) := b0.c 0
  have u1 : W0.cell? ⟨w.heap.size, 1, none⟩ = some (.int .i64 t) := b0.c 1
  have u2 : W0.cell? ⟨w.heap.size, 2, none⟩ = some (.slice A n c) := b0.c 2
  have sof : ∀ W, Fr W0 (w.heap.size + 1) 3 W → (Fr W0 (w.heap.size + 1) 3 W ∧ W.cell? ⟨w.heap.size, 0, none⟩ = some (.int .i64 b) ∧ W.cell? ⟨w.heap.size, 1, none⟩ = some (.int .i64 t) ∧ W.cell? ⟨w.heap.size, 2, none⟩ = some (.slice A n c) ∧ W.cell? ⟨w.heap.size + 1, 0, none⟩ = some (peek W (w.heap.size + 1) 0) ∧ W.cell? ⟨w.heap.size + 1, 1, none⟩ = some (peek W (w.heap.size + 1) 1) ∧ W.cell? ⟨w.heap.size + 1, 2, none⟩ = some (peek W (w.heap.size + 1) 2) ∧ W.frozen? ⟨w.heap.size + 1, 0, none⟩ = false ∧ W.frozen? ⟨w.heap.size + 1, 1, none⟩ = false ∧ W.frozen? ⟨w.heap.size + 1, 2, none⟩ = false) :=
    fun W F2 => ⟨F2, F2.cell (by omega) u0, F2.cell (by omega) u1, F2.cell (by omega) u2, F2.pk (by omega), F2.pk (by omega), F2.pk (by omega), F2.fz _, F2.fz _, F2.fz _⟩
  have hgv := fun W (h : Fr W0 (w.heap.size + 1) 3 W) => gives_any A n c L W (h.rd r0 (by omega)) (fun x hx => ⟨(h.rd (d0 x hx).1 (by omega)).any, (d0 x hx).2⟩) hs hn
  have Hgv := Lib.hid hgv
  have HW := Lib.hid hW0
  have s0 := sof _ F0
  have Hz := Lib.hid hz
  clear hW0 b0 u0 u1 u2 hr hr' hz r0 d0 hgv hd hs
  go_enter Tryz.func38, Tryz.ntmps38
  go_upto_region 1 with (fail)
  rw [← HW.out]
  go_split_ands
  go_region_held3 (fun W => Fr W0 (w.heap.size + 1) 3 W ∧ W.cell? ⟨w.heap.size, 0, none⟩ = some (.int .i64 b) ∧ W.cell? ⟨w.heap.size, 1, none⟩ = some (.int .i64 t) ∧ W.cell? ⟨w.heap.size, 2, none⟩ = some (.slice A n c) ∧ W.cell? ⟨w.heap.size + 1, 0, none⟩ = some (peek W (w.heap.size + 1) 0) ∧ W.cell? ⟨w.heap.size + 1, 1, none⟩ = some (peek W (w.heap.size + 1) 1) ∧ W.cell? ⟨w.heap.size + 1, 2, none⟩ = some (peek W (w.heap.size + 1) 2) ∧ W.frozen? ⟨w.heap.size + 1, 0, none⟩ = false ∧ W.frozen? ⟨w.heap.size + 1, 1, none⟩ = false ∧ W.frozen? ⟨w.heap.size + 1, 2, none⟩ = false) ((refine sof _ ?_; first | exact F0.drew | (go_split_ands; exact Fr.below (by assumption) (by assumption)) | (go_split_ands; exact Fr.set (Fr.set (Fr.set (by assumption) _ _) _ _) _ _))) (first
    | (go_at_call 73; refine (Hgv.out _ (by go_split_ands; assumption)).mono ?_; rintro e w4 ⟨A4, c4, L4, rfl, ro4, sm4, hb4⟩; have F4 : Fr W0 (w.heap.size + 1) 3 w4 := Fr.below (by go_split_ands; assumption) hb4; have z4 : W0.heap.size ≤ W0.drew.heap.size := Nat.le_refl _))
  all_goals
    have q0 : w4.cell? ⟨w.heap.size + 1, 0, none⟩ = some (peek w4 (w.heap.size + 1) 0) := F4.pk (by omega)
    have q1 : w4.cell? ⟨w.heap.size + 1, 1, none⟩ = some (peek w4 (w.heap.size + 1) 1) := F4.pk (by omega)
    have q2 : w4.cell? ⟨w.heap.size + 1, 2, none⟩ = some (peek w4 (w.heap.size + 1) 2) := F4.pk (by omega)
    have FF := Fr.set (Fr.set (Fr.set F4 0 (.int .i64 b)) 1 (.int .i64 t)) 2 (.slice A4 n c4)
    have hz := Hz.out
    go_wp2_with fail
    refine bodyPost_ret (by simp [results, Tryz.results38, go_sem, q0, q1, q2]; rfl) rfl ?_
    have hm := own_cap ro4.ow
    have hne : ¬ W0.drew.heap.size ≤ w.heap.size + 1 := by show ¬ W0.heap.size ≤ _; omega
    refine ⟨A4, c4, L4, rfl, ?_, fun y hy => ⟨?_, (ro4.dt y hy).2⟩, sm4, hm.1, hm.2, hbe.trans (FF.to_below (B := w.heap.size) (by omega))⟩
    · exact ((((Rd.of_own ro4.ow).setCell (p := ⟨w.heap.size + 1, 0, none⟩) hne _).setCell (p := ⟨w.heap.size + 1, 1, none⟩) hne _).setCell (p := ⟨w.heap.size + 1, 2, none⟩) hne _).any
    · exact ((((ro4.dat_from y hy).1.setCell (p := ⟨w.heap.size + 1, 0, none⟩) hne _).setCell (p := ⟨w.heap.size + 1, 1, none⟩) hne _).setCell (p := ⟨w.heap.size + 1, 2, none⟩) hne _).any
end Go.Proofs.YtlecglmiigdjlaaGreatDoor
namespace Go.Proofs.YtlecglmiigdjlaaGreatDoor
open Go.RowKit
set_option maxRecDepth 100000
set_option linter.unusedVariables false
set_option linter.unusedSimpArgs false
attribute [local go_sem ↓] Go.wp_at_zero Go.wp_at_succ
theorem uintL_len (u : Nat) (hu : u < 18446744073709551616) : (uintL u).length ≤ 22 := by
  have h := dig_size u hu
  have : (Lib.decDigits u).length ≤ 20 := h
  simp [uintL]
  omega
/-- An entry's bytes. -/
def encN (a b c : Nat) (d : List UInt8) : List UInt8 := [] ++ uintL a ++ uintL b ++ uintL c ++ bytesL d
def encE (e : En) : List UInt8 := encN e.a.toNat e.b.toNat e.c.toNat e.d
def BytesPost (W : World) (l : List UInt8) (e : Ending) (w' : World) : Prop := ∃ A n c, e = .returned (.slice A n c) ∧ w'.ownsRow W.heap.size 5 1 (.slice A n c) n (bs l) ∧ Below W.heap.size W w'
set_option maxHeartbeats 3200000 in
theorem encode_nat (a b c : Nat) (A : Option Addr) (n m : Nat) (d : List UInt8) (w : World) (ha : a ≤ 9223372036854775807) (hb' : b ≤ 9223372036854775807) (hc' : c ≤ 9223372036854775807) (hr : Rd w T 1 A n (bs d)) (hn : n ≤ 1000000) (htab : TabW w) :
    Calls Tryz.prog 100 #[.agg #[.int .i64 a, .int .i64 b, .int .i64 c, .slice A n m]] w (BytesPost w (encN a b c d)) := by
  obtain ⟨W0, hW0⟩ : ∃ W0, W0 = w.alloc (.cells #[.int .i64 a, .int .i64 b, .int .i64 c, .slice A n m] 143) := ⟨_, rfl⟩
  have b0 : Bx W0 w.heap.size #[.int .i64 a, .int .i64 b, .int .i64 c, .slice A n m] := by subst hW0; exact Bx.new _ _ _ rfl
  have r0 : Rd W0 (· < W0.heap.size) 1 A n (bs d) := by subst hW0; exact ((hr.alloc _).lt (by omega)).mono fun b hb => hb.2
  have hbe : Below w.heap.size w W0 := by subst hW0; exact (Below.refl _ _).alloc (Nat.le_refl _) _
  have t0 : TabW W0 := htab.below hbe (Nat.le_refl _)
  have hz : W0.heap.size = w.heap.size + 1 := by subst hW0; simp
  have hdn : d.length = n := hr.blen
  have sof : ∀ W, Below W0.heap.size W0 W → (Below W0.heap.size W0 W ∧ W.cell? ⟨w.heap.size, 0, none⟩ = some (.int .i64 a) ∧ W.cell? ⟨w.heap.size, 1, none⟩ = some (.int .i64 b) ∧ W.cell? ⟨w.heap.size, 2, none⟩ = some (.int .i64 c) ∧ W.cell? ⟨w.heap.size, 3, none⟩ = some (.slice A n m)) :=
    fun W h => ⟨h, (b0.under h (by omega)).c 0, (b0.under h (by omega)).c 1, (b0.under h (by omega)).c 2, (b0.under h (by omega)).c 3⟩
  have s0 := sof _ (Below.refl _ _)
  have la := uintL_len a (by omega)
  have lb := uintL_len b (by omega)
  have lc := uintL_len c (by omega)
  have ld : (bytesL d).length ≤ n + 22 := by
    have h := dig_size d.length (by omega)
    have : (Lib.decDigits d.length).length ≤ 20 := h
    simp [bytesL]
    omega
  have hnew : ∀ W, Below W0.heap.size W0 W → Calls Tryz.prog 96 #[] W (fun e w' => e = .returned (.pointer (some ⟨W.heap.size, 0, none⟩)) ∧ Wr w' W0.heap.size W.heap.size [] ∧ Below W0.heap.size W0 w') := fun W hb => (new_any W).mono (by
    rintro e w' ⟨rfl, h, h2⟩
    obtain ⟨A, n, c, k1, k2, k3⟩ := h.ex
    refine ⟨rfl, ⟨A, n, c, k1, hb.size, ?_⟩, hb.trans (h2.mono hb.size)⟩
    refine ⟨k3.1, ?_⟩
    rcases k3.2 with hn | ⟨g, cap, cur, hv, hB, rest⟩
    · exact .inl hn
    · exact .inr ⟨g, cap, cur, hv, Nat.le_trans hb.size hB, rest⟩)
  have huint : ∀ W p l (u : Nat), Below W0.heap.size W0 W → Wr W W0.heap.size p l → u ≤ 9223372036854775807 → l.length ≤ 100 → Calls Tryz.prog 97 #[.pointer (some ⟨p, 0, none⟩), .int .u64 (u : Int)] W (fun e w' => e = .returned (.pointer (some ⟨p, 0, none⟩)) ∧ Wr w' W0.heap.size p (l ++ uintL u) ∧ Below W0.heap.size W0 w') := fun W p l u hb h hu hl => (uint_any W0.heap.size p l u (by omega) W h (by omega) (t0.below hb (Nat.le_refl _)) hb.size).mono (by
    rintro e w' ⟨rfl, h, h2⟩
    exact ⟨rfl, h, hb.trans h2⟩)
  have hbytes : ∀ W p l, Below W0.heap.size W0 W → Wr W W0.heap.size p l → l.length ≤ 100 → Calls Tryz.prog 98 #[.pointer (some ⟨p, 0, none⟩), .slice A n m] W (fun e w' => e = .returned (.pointer (some ⟨p, 0, none⟩)) ∧ Wr w' W0.heap.size p (l ++ bytesL d) ∧ Below W0.heap.size W0 w') := fun W p l hb h hl => (bytes_any W0.heap.size p l d A n m W h (by omega) (t0.below hb (Nat.le_refl _)) hb.size (r0.keep fun q h1 h2 => hb.block q h1) (by omega)).mono (by
    rintro e w' ⟨rfl, h, h2⟩
    exact ⟨rfl, h, hb.trans h2⟩)
  have hdone : ∀ W p l, Below W0.heap.size W0 W → Wr W W0.heap.size p l → l.length ≤ 2000000 → Calls Tryz.prog 101 #[.pointer (some ⟨p, 0, none⟩)] W (fun e w' => ∃ A N c, e = .returned (.slice A N c) ∧ w'.ownsRow w.heap.size 5 1 (.slice A N c) N (bs l) ∧ Below W0.heap.size W0 w') := fun W p l hb h hl => (done_any W0.heap.size p l W h (by omega)).mono (by
    rintro e w' ⟨A, c, rfl, k3, h2⟩
    have hs := hb.size
    refine ⟨A, _, c, rfl, ⟨k3.1, ?_⟩, hb.trans (h2.mono hb.size)⟩
    rcases k3.2 with hn | ⟨g, cap, cur, hv, hB, rest⟩
    · exact .inl hn
    · exact .inr ⟨g, cap, cur, hv, by omega, rest⟩)
  have wa : IntKind.u64.wrap (a : Int) = (a : Int) := by rw [IntKind.wrap_u64]; omega
  have wb : IntKind.u64.wrap (b : Int) = (b : Int) := by rw [IntKind.wrap_u64]; omega
  have wc : IntKind.u64.wrap (c : Int) = (c : Int) := by rw [IntKind.wrap_u64]; omega
  have Hnew := Lib.hid hnew
  have Huint := Lib.hid huint
  have Hbytes := Lib.hid hbytes
  have Hdone := Lib.hid hdone
  have HW := Lib.hid hW0
  have Hbe := Lib.hid hbe
  clear hW0 b0 r0 hr htab t0 hz hdn hnew huint hbytes hdone hbe
  go_enter Tryz.func100, Tryz.ntmps100
  go_upto_region 1 with (fail)
  rw [← HW.out]
  go_split_ands
  go_region_held3 (fun W => Below W0.heap.size W0 W ∧ W.cell? ⟨w.heap.size, 0, none⟩ = some (.int .i64 a) ∧ W.cell? ⟨w.heap.size, 1, none⟩ = some (.int .i64 b) ∧ W.cell? ⟨w.heap.size, 2, none⟩ = some (.int .i64 c) ∧ W.cell? ⟨w.heap.size, 3, none⟩ = some (.slice A n m)) ((refine sof _ ?_; first | exact (Below.refl _ _).drew | assumption | (go_split_ands; assumption))) (first
    | ((with_reducible refine (Hnew.out _ (by go_split_ands; assumption)).mono ?_); rintro e w1 ⟨rfl, h1, k1⟩; replace h1 : Wr w1 W0.heap.size W0.heap.size [] := h1)
    | ((with_reducible refine (Huint.out _ _ _ _ (by go_split_ands; assumption) (by assumption) (by assumption) (by simp only [List.length_append, List.length_nil]; omega)).mono ?_); rintro e w2 ⟨rfl, h2, k2⟩)
    | ((with_reducible refine (Hbytes.out _ _ _ (by go_split_ands; assumption) (by assumption) (by simp only [List.length_append, List.length_nil]; omega)).mono ?_); rintro e w3 ⟨rfl, h3, k3⟩)
    | ((with_reducible refine (Hdone.out _ _ _ (by go_split_ands; assumption) (by assumption) (by simp only [List.length_append, List.length_nil]; omega)).mono ?_); rintro e w4 ⟨A4, N4, c4, rfl, h4, k4⟩))
  all_goals
    go_wp2_with fail
    go_ret
    exact ⟨_, _, _, rfl, h4, Hbe.out.trans (k4.mono Hbe.out.size)⟩
end Go.Proofs.YtlecglmiigdjlaaGreatDoor
