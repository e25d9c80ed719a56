/- Rows of a call's own that are written over in place.
   Rows of entries of a call's own, with their bytes.
   Walks of the law's giveEntry, giveEntries, giveLog.
   Walk of entry.Encode.
   A region that draws its order, whose first n operations only read, and whose others each wait for one of the others: the first ones can be gone through in the text's order; what is behind them is walked as any region is. -/
import Derived.Test.YtmhaahcbmdhinaaGreatDoorRows
import Derived.Test.YtmhaahcbmdhinaaGreatDoorKW0
import Derived.Deep.RegionLaw
import Derived.Lib.SliceRun
import Derived.Laws.OwnMore
import Derived.Test.YtmhaahcbmdhinaaGreatDoorKW1
import Derived.Deep.RegionHeld3
import Derived.Deep.DrawnRows
import Derived.Test.YtmhaahcbmdhinaaGreatDoorKW2
import Derived.StillTailTactics
namespace Go.Proofs.YtmhaahcbmdhinaaGreatDoor
open Go.RowKit
set_option linter.unusedVariables false
set_option linter.unusedSimpArgs false
set_option maxRecDepth 100000
/-- A list with others laid over it from o on. -/
def lays (xs : List Value) (o : Nat) (vs : List Value) : List Value := match vs with
  | [] => xs
  | v :: vs => lays (xs.set o v) (o + 1) vs
/-- A row is a shorter row. -/
theorem own_take {w : World} {B : Nat} {e : TypeId} {size g n c m : Nat} {xs : List Value} (h : w.ownsRow B e size (.slice (some ⟨g, 0, none⟩) n c) n xs) (hm : m ≤ n) : w.ownsRow B e size (.slice (some ⟨g, 0, none⟩) m c) m (xs.take (m * size)) := by
  have hle := Nat.mul_le_mul_right size hm
  refine ⟨by rw [List.length_take, h.1]; omega, ?_⟩
  rcases h.2 with ⟨h', _⟩ | ⟨g', cap', cur, h', hb, hg, hnc, hcm, hcs, htake⟩
  · simp at h'
  · simp only [Value.slice.injEq, Option.some.injEq, Addr.mk.injEq, and_true, true_and] at h'
    obtain ⟨rfl, rfl⟩ := h'
    refine .inr ⟨g, c, cur, rfl, hb, hg, by omega, hcm, hcs, ?_⟩
    rw [← htake, List.take_take]
    congr 1
    omega
end Go.Proofs.YtmhaahcbmdhinaaGreatDoor

namespace Go.Proofs.YtmhaahcbmdhinaaGreatDoor
open Go.RowKit
set_option maxRecDepth 100000
set_option linter.unusedVariables false
set_option linter.unusedSimpArgs false
theorem ent_elem : Elem Tryz.prog 62 (.agg #[.int .i64 0, .int .i64 0, .int .i64 0, .slice none 0 0]) 4 48 := by unfold Elem; kernel_rfl
/-- A literal of one row. -/
theorem Rd.lit4 (w : World) {cs : Array Value} (t : TypeId) {fr : Nat × Nat} (hk : cs.size = 4) : Rd (w.alloc (.cells cs t fr)) T 4 (some ⟨w.heap.size, 0, none⟩) 1 cs.toList :=
  ⟨by simp [hk], fun _ => ⟨_, rfl, trivial, fun j u hu => World.news_of_block (heap_alloc_new w _) j u hu⟩⟩
def DatO (w : World) (B : Nat) (A : Option Addr) (l : List Er) : Prop := ∀ y ∈ l, Rd w (fun b => B ≤ b ∧ A.map (·.block) ≠ some b) 1 y.A y.n (bs y.d) ∧ y.n ≤ y.m ∧ y.m ≤ maxLen
structure Ro (W : World) (B : Nat) (A : Option Addr) (n c : Nat) (l : List Er) : Prop where
  ow : W.ownsRow B 62 4 (.slice A n c) n (flat ecell l)
  dt : DatO W B A l
section
variable {W W' : World} {B n c : Nat} {A : Option Addr} {l : List Er}
theorem Ro.nil (W : World) (B : Nat) : Ro W B none 0 0 [] := ⟨World.ownsRow_nil _ _ _ _, by intro y hy; cases hy⟩
theorem Ro.below (h : Ro W B A n c l) (hb : Below W.heap.size W W') : Ro W' B A n c l := ⟨own_below h.ow hb, fun y hy => ⟨(h.dt y hy).1.below hb, (h.dt y hy).2⟩⟩
theorem Ro.alloc (h : Ro W B A n c l) (o : Obj) : Ro (W.alloc o) B A n c l := h.below ((Below.refl _ _).alloc (Nat.le_refl _) o)
theorem Ro.drew (h : Ro W B A n c l) : Ro W.drew B A n c l := h.below (Below.refl _ _).drew
theorem Ro.rd (h : Ro W B A n c l) : Rd W T 4 A n (flat ecell l) := (Rd.of_own h.ow).any
theorem Ro.dat (h : Ro W B A n c l) : Dat W l := fun y hy => ⟨(h.dt y hy).1.any, (h.dt y hy).2⟩
theorem Ro.dat_from (h : Ro W B A n c l) : ∀ y ∈ l, Rd W (B ≤ ·) 1 y.A y.n (bs y.d) ∧ y.n ≤ y.m ∧ y.m ≤ maxLen := fun y hy => ⟨(h.dt y hy).1.mono fun b hb => hb.1, (h.dt y hy).2⟩
theorem Ro.len (h : Ro W B A n c l) : l.length = n := h.rd.flen ecell_len (by omega)
/-- An entry more, by append. -/
theorem Ro.push {y : Er} {k c2 : Nat} {A2 : Option Addr} {W2 : World} (h : Ro W B A n c l) (hy : Rd W (fun b => B ≤ b ∧ A.map (·.block) ≠ some b) 1 y.A y.n (bs y.d)) (hy1 : y.n ≤ y.m) (hy2 : y.m ≤ maxLen)
    (hk : k = n + 1) (ho : W2.ownsRow B 62 4 (.slice A2 k c2) k (flat ecell l ++ ecell y)) (hg : W.grownBy W2 (A.map (·.block))) (hat : A2.map (·.block) = A.map (·.block) ∨ A2.map (·.block) = some W.heap.size) :
    Ro W2 B A2 (n + 1) c2 (l ++ [y]) := by
  subst hk
  refine ⟨by rw [flat_append, flat_one]; exact ho, fun z hz => ?_⟩
  have hz' : Rd W (fun b => B ≤ b ∧ A.map (·.block) ≠ some b) 1 z.A z.n (bs z.d) ∧ z.n ≤ z.m ∧ z.m ≤ maxLen := by
    rcases List.mem_append.1 hz with hz | hz
    · exact h.dt z hz
    · obtain rfl := List.mem_singleton.1 hz
      exact ⟨hy, hy1, hy2⟩
  refine ⟨?_, hz'.2⟩
  have h1 := (hz'.1.lt (by omega)).grown hg (fun g hg' h2 => h2.1.2 hg')
  refine h1.mono fun b hb => ?_
  refine ⟨hb.1.1, ?_⟩
  rcases hat with e | e
  · rw [e]; exact hb.1.2
  · rw [e]; intro e2; injection e2 with e2; omega
/-- The first m of them. -/
theorem Ro.take {m : Nat} (h : Ro W B A n c l) (hm : m ≤ n) (hA : A = none ∨ ∃ g, A = some ⟨g, 0, none⟩) : Ro W B A m c (l.take m) := by
  refine ⟨?_, fun z hz => h.dt z (List.mem_of_mem_take hz)⟩
  rcases hA with rfl | ⟨g, rfl⟩
  · have hn : n = 0 := h.rd.nil_of_none.1
    obtain rfl : m = 0 := by omega
    have := h.ow
    subst hn
    rw [List.take_zero]
    have hl := h.len
    rw [List.eq_nil_of_length_eq_zero hl] at this
    exact this
  · rw [flat_take ecell_len]
    exact own_take h.ow hm
theorem Ro.form (h : Ro W B A n c l) : A = none ∨ ∃ g, A = some ⟨g, 0, none⟩ := by
  rcases h.ow.2 with ⟨h', h''⟩ | ⟨g', _, _, h', _⟩
  · exact .inl (by injection h')
  · injection h' with h' _ _
    exact .inr ⟨g', h'⟩
end
end Go.Proofs.YtmhaahcbmdhinaaGreatDoor

namespace Go.Proofs.YtmhaahcbmdhinaaGreatDoor
open Go.RowKit
set_option maxRecDepth 100000
set_option linter.unusedVariables false
set_option linter.unusedSimpArgs false
attribute [local go_sem ↓] Go.wp_at_zero Go.wp_at_succ
theorem own_cap {w : World} {base : Nat} {e : TypeId} {size n c : Nat} {A : Option Addr} {xs : List Value} (h : w.ownsRow base e size (.slice A n c) n xs) : n ≤ c ∧ c ≤ maxLen := by
  obtain ⟨A', c', hv, h1, h2⟩ := own_form h
  injection hv with _ _ hv
  subst hv
  exact ⟨h1, h2⟩
def GivePost (W : World) (x : Er) (e : Ending) (w' : World) : Prop :=
  ∃ A m, e = .returned (.agg #[.int .i64 x.a, .int .i64 x.b, .int .i64 x.c, .slice A x.n m]) ∧ Rd w' (W.heap.size ≤ ·) 1 A x.n (bs x.d) ∧ x.n ≤ m ∧ m ≤ maxLen ∧ Below W.heap.size W w'
set_option maxHeartbeats 3200000 in
theorem give1_any (x : Er) (w : World) (hr : Rd w T 1 x.A x.n (bs x.d)) (hn : x.n ≤ 1000000) :
    Calls Tryz.prog 132 #[.agg #[.int .i64 x.a, .int .i64 x.b, .int .i64 x.c, .slice x.A x.n x.m]] w (GivePost w x) := by
  have hr' := hr.lt (by omega)
  obtain ⟨W0, hW0⟩ : ∃ W0, W0 = (w.alloc (.cells #[.int .i64 x.a, .int .i64 x.b, .int .i64 x.c, .slice x.A x.n x.m] 104)).alloc (.cells #[.int .i64 0, .int .i64 0, .int .i64 0, .slice none 0 0] 62) := ⟨_, rfl⟩
  have b0 : Bx W0 w.heap.size #[.int .i64 x.a, .int .i64 x.b, .int .i64 x.c, .slice x.A x.n x.m] := by subst hW0; exact (Bx.new _ _ _ rfl).alloc _
  have F0 : Fr W0 (w.heap.size + 1) 4 W0 := by subst hW0; exact Fr.new (by simp) rfl
  have r0 : Rd W0 (· < w.heap.size) 1 x.A x.n (bs x.d) := by subst hW0; exact ((hr'.mono fun b hb => hb.2).alloc _).alloc _
  have hbe : Below w.heap.size w W0 := by subst hW0; exact ((Below.refl _ _).alloc (Nat.le_refl _) _).alloc (by simp) _
  have hz : W0.heap.size = w.heap.size + 2 := by subst hW0; simp
  have u0 : W0.cell? ⟨w.heap.size, 0, none⟩ = some (.int .i64 x.a) := b0.c 0
  have u1 : W0.cell? ⟨w.heap.size, 1, none⟩ = some (.int .i64 x.b) := b0.c 1
  have u2 : W0.cell? ⟨w.heap.size, 2, none⟩ = some (.int .i64 x.c) := b0.c 2
  have u3 : W0.cell? ⟨w.heap.size, 3, none⟩ = some (.slice x.A x.n x.m) := b0.c 3
  have sof : ∀ W, Fr W0 (w.heap.size + 1) 4 W → (Fr W0 (w.heap.size + 1) 4 W ∧ W.cell? ⟨w.heap.size, 0, none⟩ = some (.int .i64 x.a) ∧ W.cell? ⟨w.heap.size, 1, none⟩ = some (.int .i64 x.b) ∧ W.cell? ⟨w.heap.size, 2, none⟩ = some (.int .i64 x.c) ∧ W.cell? ⟨w.heap.size, 3, none⟩ = some (.slice x.A x.n x.m) ∧ W.cell? ⟨w.heap.size + 1, 0, none⟩ = some (peek W (w.heap.size + 1) 0) ∧ W.cell? ⟨w.heap.size + 1, 1, none⟩ = some (peek W (w.heap.size + 1) 1) ∧ W.cell? ⟨w.heap.size + 1, 2, none⟩ = some (peek W (w.heap.size + 1) 2) ∧ W.cell? ⟨w.heap.size + 1, 3, none⟩ = some (peek W (w.heap.size + 1) 3) ∧ W.frozen? ⟨w.heap.size + 1, 0, none⟩ = false ∧ W.frozen? ⟨w.heap.size + 1, 1, none⟩ = false ∧ W.frozen? ⟨w.heap.size + 1, 2, none⟩ = false ∧ W.frozen? ⟨w.heap.size + 1, 3, none⟩ = false) :=
    fun W F2 => ⟨F2, F2.cell (by omega) u0, F2.cell (by omega) u1, F2.cell (by omega) u2, F2.cell (by omega) u3, F2.pk (by omega), F2.pk (by omega), F2.pk (by omega), F2.pk (by omega), F2.fz _, F2.fz _, F2.fz _, F2.fz _⟩
  have HW := Lib.hid hW0
  have s0 := sof _ F0
  have Hz := Lib.hid hz
  clear hW0 b0 u0 u1 u2 u3 hr hr' hz
  go_enter Tryz.func132, Tryz.ntmps132
  go_upto_region 2 with (fail)
  rw [← HW.out]
  go_split_ands
  go_region_held3 (fun W => Fr W0 (w.heap.size + 1) 4 W ∧ W.cell? ⟨w.heap.size, 0, none⟩ = some (.int .i64 x.a) ∧ W.cell? ⟨w.heap.size, 1, none⟩ = some (.int .i64 x.b) ∧ W.cell? ⟨w.heap.size, 2, none⟩ = some (.int .i64 x.c) ∧ W.cell? ⟨w.heap.size, 3, none⟩ = some (.slice x.A x.n x.m) ∧ W.cell? ⟨w.heap.size + 1, 0, none⟩ = some (peek W (w.heap.size + 1) 0) ∧ W.cell? ⟨w.heap.size + 1, 1, none⟩ = some (peek W (w.heap.size + 1) 1) ∧ W.cell? ⟨w.heap.size + 1, 2, none⟩ = some (peek W (w.heap.size + 1) 2) ∧ W.cell? ⟨w.heap.size + 1, 3, none⟩ = some (peek W (w.heap.size + 1) 3) ∧ W.frozen? ⟨w.heap.size + 1, 0, none⟩ = false ∧ W.frozen? ⟨w.heap.size + 1, 1, none⟩ = false ∧ W.frozen? ⟨w.heap.size + 1, 2, none⟩ = false ∧ W.frozen? ⟨w.heap.size + 1, 3, none⟩ = false) ((refine sof _ ?_; first | exact F0.drew | (go_split_ands; exact Fr.grown (by assumption) hg4 (by simp)) | (go_split_ands; exact Fr.set (Fr.set (Fr.set (Fr.set (by assumption) _ _) _ _) _ _) _ _))) (first
    | (refine step_append_any (news := bs x.d) (c := x.m) _ Tryz.underlying26 u8_elem rfl (by omega) rfl rfl (by simp [Act.eval, Act.put]) (World.ownsRow_nil _ W0.heap.size 5 1) (by simp [Act.eval, Act.put]) r0.drew (bs_one _) (by omega) (Nat.le_refl _) (Nat.zero_add _) (List.nil_append _) ?_; intro A4 c4 w4 hown4 hg4 hat4; have F4 : Fr W0 (w.heap.size + 1) 4 w4 := Fr.grown (by go_split_ands; assumption) hg4 (by simp)))
  all_goals
    have q0 : w4.cell? ⟨w.heap.size + 1, 0, none⟩ = some (peek w4 (w.heap.size + 1) 0) := F4.pk (by omega)
    have q1 : w4.cell? ⟨w.heap.size + 1, 1, none⟩ = some (peek w4 (w.heap.size + 1) 1) := F4.pk (by omega)
    have q2 : w4.cell? ⟨w.heap.size + 1, 2, none⟩ = some (peek w4 (w.heap.size + 1) 2) := F4.pk (by omega)
    have q3 : w4.cell? ⟨w.heap.size + 1, 3, none⟩ = some (peek w4 (w.heap.size + 1) 3) := F4.pk (by omega)
    have FF := Fr.set (Fr.set (Fr.set (Fr.set F4 0 (.int .i64 x.a)) 1 (.int .i64 x.b)) 2 (.int .i64 x.c)) 3 (.slice A4 x.n c4)
    have hz := Hz.out
    go_wp2_with fail
    refine bodyPost_ret (by simp [results, Tryz.results132, go_sem, q0, q1, q2, q3]; rfl) rfl ?_
    have hm := own_cap hown4
    refine ⟨A4, c4, rfl, ?_, hm.1, hm.2, hbe.trans ((FF.to_below (B := w.heap.size) (by omega)))⟩
    have r4 := Rd.of_own hown4
    have hne : ¬ W0.heap.size ≤ w.heap.size + 1 := by omega
    exact ((((r4.setCell (p := ⟨w.heap.size + 1, 0, none⟩) hne _).setCell (p := ⟨w.heap.size + 1, 1, none⟩) hne _).setCell (p := ⟨w.heap.size + 1, 2, none⟩) hne _).setCell (p := ⟨w.heap.size + 1, 3, none⟩) hne _).mono fun b hb => by omega
/-- The same entries, one by one. -/
def Same (L L' : List Er) : Prop := L'.map en = L.map en
theorem Wel.of {W : World} {B n c : Nat} {A : Option Addr} {L L' : List Er} (hw : Wel L) (hs : Same L L') (h : Dat W L') : Wel L' := by
  intro y hy
  have hm : en y ∈ L.map en := by rw [← hs]; exact List.mem_map.2 ⟨y, hy, rfl⟩
  obtain ⟨x, hx, he⟩ := List.mem_map.1 hm
  have hx' := (hw x hx).1
  have e1 : x.a = y.a := congrArg En.a he
  have e2 : x.b = y.b := congrArg En.b he
  have e3 : x.c = y.c := congrArg En.c he
  unfold W64 at hx' ⊢
  rw [e1, e2, e3] at hx'
  exact ⟨hx', ((h y hy).1.blen).symm⟩
def GivesPost (W : World) (n : Nat) (L : List Er) (e : Ending) (w' : World) : Prop :=
  ∃ A c L', e = .returned (.slice A n c) ∧ Ro w' W.heap.size A n c L' ∧ Same L L' ∧ Below W.heap.size W w'
set_option maxHeartbeats 1600000 in
theorem gives_any (A : Option Addr) (n c : Nat) (L : List Er) (w : World) {ok : Nat → Prop} (hr : Rd w ok 4 A n (flat ecell L)) (hd : Dat w L) (hs : ∀ x ∈ L, x.n ≤ 1000000) (hn : n ≤ 1000000) :
    Calls Tryz.prog 72 #[.slice A n c] w (GivesPost w n L) := by
  have Hll := Lib.hid (hr.flen ecell_len (by omega))
  have Hd := Lib.hid hd
  have Hs := Lib.hid hs
  have Hr := Lib.hid hr
  clear hd hs hr
  go_enter Tryz.func72, Tryz.ntmps72
  go_wp2_with fail
  go_loopg [3, 4] n (fun m s3 s4 wr => ∃ (j : Nat) (A' : Option Addr) (c' : Nat) (L' : List Er), m = n - j ∧ j ≤ n ∧ s4 = .int .i64 j ∧ s3 = .slice A' j c' ∧ Ro wr w.heap.size A' j c' L' ∧ Same (L.take j) L' ∧ Below w.heap.size w wr)
  case atStart => exact ⟨0, none, 0, [], by omega, by omega, rfl, rfl, Ro.nil _ _, rfl, Below.refl _ _⟩
  case round =>
    obtain ⟨j, A', c', L', hm, hj, rfl, rfl, hro, hsm, hb⟩ := hrel
    have Hm := Lib.hid hm
    have Ro1 := Lib.hid hro
    have Sm := Lib.hid hsm
    have Hb := Lib.hid hb
    clear hm hro hsm hb
    by_cases hlt : j < n
    · obtain ⟨b, o, x, rfl, _, hbl, hx, c0, c1, c2, c3⟩ := er_cells (Hr.out.below Hb.out) hlt
      have hjI : (j : Int) < n := by omega
      have hdx := (Hd.out x (List.mem_of_getElem? hx)).1.below Hb.out
      have hxn := Hs.out x (List.mem_of_getElem? hx)
      have hg1 := give1_any x wr hdx hxn
      have Hg1 := Lib.hid hg1
      have Hx := Lib.hid hx
      clear hdx hx hg1
      go_wp2_with fail
      refine Hg1.out.mono ?_
      rintro e w2 ⟨A2, m2, rfl, r2, hm1, hm2, hb2⟩
      have ro2 := Ro1.out.below hb2
      have hz2 := hb2.size
      have hz1 := Hb.out.size
      have R2 := Lib.hid r2
      have Ro2 := Lib.hid ro2
      have Hb2 := Lib.hid hb2
      clear r2 ro2 hb2
      go_wp2_with (at_builtin; refine wpList_append_any (news := [.int .i64 x.a, .int .i64 x.b, .int .i64 x.c, .slice A2 x.n m2]) _ Tryz.underlying36 ent_elem rfl (by omega) rfl rfl rfl (Ro2.out.alloc _).ow rfl (show Rd (w2.alloc (.cells #[.int .i64 x.a, .int .i64 x.b, .int .i64 x.c, .slice A2 x.n m2] 62)) T 4 (some ⟨w2.heap.size, 0, none⟩) 1 [.int .i64 x.a, .int .i64 x.b, .int .i64 x.c, .slice A2 x.n m2] from (Rd.lit4 _ _ rfl)) (by intro u hu; simp only [List.mem_cons, List.not_mem_nil, or_false] at hu; rcases hu with rfl | rfl | rfl | rfl <;> rfl) (by omega) (by simp; omega) rfl rfl ?_; intro A3 c3' w3 hown3 hg3 hat3)
      have hpush := (Ro2.out.alloc (.cells #[.int .i64 x.a, .int .i64 x.b, .int .i64 x.c, .slice A2 x.n m2] 62)).push (y := ⟨x.a, x.b, x.c, A2, x.n, m2, x.d⟩) ((R2.out.alloc _).mono fun b hb => ⟨by omega, fun e => by have := own_lt Ro1.out.ow b e; omega⟩) hm1 hm2 rfl hown3 hg3 hat3
      have hsm2 : Same (L.take (j + 1)) (L' ++ [⟨x.a, x.b, x.c, A2, x.n, m2, x.d⟩]) := by
        unfold Same
        rw [List.take_add_one, Hx.out, List.map_append, List.map_append, Sm.out]
        rfl
      have hb3 := (((Hb.out.trans (Hb2.out.mono Hb.out.size)).alloc (by omega) (.cells #[.int .i64 x.a, .int .i64 x.b, .int .i64 x.c, .slice A2 x.n m2] 62))).grown hg3 (by simp; omega) (fun q hq => (own_lt Ro1.out.ow q hq).1)
      go_roundg (n - (j + 1))
      case measure => have := Hm.out; omega
      case rel => exact ⟨j + 1, A3, c3', _, rfl, by omega, by go_num, rfl, hpush, hsm2, hb3⟩
    · obtain rfl : j = n := by omega
      go_wp2_with fail
      go_ret
      exact ⟨A', c', L', rfl, Ro1.out, by have := Sm.out; rwa [List.take_of_length_le (Nat.le_of_eq Hll.out)] at this, Hb.out⟩
def LogPost (W : World) (b t : Int) (n : Nat) (L : List Er) (e : Ending) (w' : World) : Prop :=
  ∃ A c L', e = .returned (.agg #[.int .i64 b, .int .i64 t, .slice A n c]) ∧ Rd w' T 4 A n (flat ecell L') ∧ Dat w' L' ∧ Same L L' ∧ n ≤ c ∧ c ≤ maxLen ∧ Below W.heap.size W w'
end Go.Proofs.YtmhaahcbmdhinaaGreatDoor

namespace Go.Proofs.YtmhaahcbmdhinaaGreatDoor
open Go.RowKit
set_option maxRecDepth 100000
set_option linter.unusedVariables false
set_option linter.unusedSimpArgs false
attribute [local go_sem ↓] Go.wp_at_zero Go.wp_at_succ
/-- An entry's bytes. -/
def encN (a b c : Nat) (d : List UInt8) : List UInt8 := [] ++ uintL a ++ uintL b ++ uintL c ++ bytesL d
def encE (e : En) : List UInt8 := encN e.a.toNat e.b.toNat e.c.toNat e.d
def BytesPost (W : World) (l : List UInt8) (e : Ending) (w' : World) : Prop := ∃ A n c, e = .returned (.slice A n c) ∧ w'.ownsRow W.heap.size 5 1 (.slice A n c) n (bs l) ∧ Below W.heap.size W w'
end Go.Proofs.YtmhaahcbmdhinaaGreatDoor

namespace Go.Proofs.YtmhaahcbmdhinaaGreatDoor
set_option linter.unusedVariables false
section
variable {P : Program} {ops : Array Oper} {md : Region.Mode} {w : World}
/-- Each operation behind the n-th waits for one from the n-th on. -/
def hangsB (md : Region.Mode) (ops : Array Oper) (n : Nat) : Bool := (List.range ops.size).all fun t => decide (t ≤ n) || (List.range t).any fun u => decide (n ≤ u) && Region.waitsFor md ops t u
theorem late_n {n : Nat} {listed : Array Bool} (hs : Region.sinkB md ops n = true) (hn : n < ops.size) (inv : HeadInv md ops n listed) :
    ∀ (d i : Nat), n - i = d → i < n → listed.getD i true = false → n ∉ Region.ready md ops listed := by
  intro d
  induction d using Nat.strongRecOn with
  | _ d ih =>
    intro i hd hi hun hr
    obtain ⟨_, on, hon, hall⟩ := mem_ready.1 hr
    obtain ⟨j, hj, hj2⟩ := List.any_eq_true.1 (List.all_eq_true.1 hs i (List.mem_range.2 hi))
    simp only [Bool.and_eq_true, decide_eq_true_eq] at hj2
    obtain ⟨oj, hoj, e, he, hb, hei⟩ := Region.waitsFor_spec hj2.2
    have hjn : j ≤ n := by have := List.mem_range.1 hj; omega
    have hil : listed.getD i false = false := getD_both hun
    by_cases hjt : j = n
    · subst hjt
      obtain rfl : oj = on := Option.some.inj (hoj.symm.trans hon)
      have := hall e he hb
      rw [hei, hil] at this
      cases this
    · by_cases hl : listed.getD j false = true
      · have := inv.closed j oj hoj hl e he hb
        rw [hei, hil] at this
        cases this
      · have hjs : j < listed.size := by rw [inv.size]; omega
        exact ih (n - j) (by omega) j rfl (by omega) (getD_in hjs (by simpa using hl)) hr
/-- The flags when k .. k + f - 1 have come. -/
def flags : Nat → Nat → Array Bool → Array Bool
  | 0, _, listed => listed
  | f + 1, k, listed => flags f (k + 1) (listed.setIfInBounds k true)
def goodHead (md : Region.Mode) (ops : Array Oper) (n : Nat) : Nat → Nat → Array Bool → Bool
  | 0, _, listed => (Region.ready md ops listed).all fun j => decide (n ≤ j)
  | f + 1, k, listed => (Region.ready md ops listed).contains k && Region.free md ops listed k && goodHead md ops n f (k + 1) (listed.setIfInBounds k true)
def readsThenB (md : Region.Mode) (ops : Array Oper) (n : Nat) : Bool :=
  Region.noSelect ops && decide (n < ops.size) && Region.sinkB md ops n && hangsB md ops n && goodHead md ops n n 0 (Array.replicate ops.size false)
end
end Go.Proofs.YtmhaahcbmdhinaaGreatDoor

