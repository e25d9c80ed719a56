/- Walk: what bytes tell, by the document: tollbarref15.Decode. (Printed by mkkdecr.py.) -/
import Derived.Test.YtlecglmiigdjlaaGreatDoorZb16
import Derived.Test.YtlecglmiigdjlaaGreatDoorZb28
import Derived.Test.YtlecglmiigdjlaaGreatDoorZb6
import Derived.Test.YtlecglmiigdjlaaGreatDoorZb29
namespace Go.Proofs.YtlecglmiigdjlaaGreatDoor
open Go.RowKit
set_option maxRecDepth 100000
set_option linter.unusedVariables false
set_option linter.unusedSimpArgs false
theorem own_set {W : World} {B e size n c m : Nat} {A : Option Addr} {xs : List Value} (h : W.ownsRow B e size (.slice A n c) m xs) {p : Addr} (hp : p.block < B) (v : Value) : (W.setCell p v).ownsRow B e size (.slice A n c) m xs :=
  own_gb h (p := p.block) ⟨rfl, rfl, rfl, by simp [World.setCell], fun i _ hi => Below.heap_setCell _ _ _ i (fun e => hi (by rw [e]))⟩ hp
/-- In the midst of reading: the result's box g, the reader g + 1, what is built g + 2, the numbers g + 3. -/
structure DR (w : World) (ok : Nat → Prop) (W : World) (B : Nat) (s : RdS) (ns5 : Array Value) (z : Sv) : Prop where
  bg : Bx W w.heap.size z7
  br : ∃ A n c, Bx W (w.heap.size + 1) #[.slice A n c, .int .i64 s.2] ∧ Rd W (fun b => ok b ∧ b < w.heap.size) 1 A n (bs s.1) ∧ n ≤ c ∧ c ≤ maxLen
  bq : Bx W (w.heap.size + 3) ns5
  bv : Bx W (w.heap.size + 2) z.cells
  ow : W.ownsRow B 93 4 (.slice z.A z.n z.c) z.n (flat ecell z.L)
  dt : ∀ y ∈ z.L, Rd W (fun b => ok b ∧ b < w.heap.size) 1 y.A y.n (bs y.d) ∧ y.n ≤ y.m ∧ y.m ≤ maxLen
  rc : Rd W (fun b => w.heap.size + 3 < b ∧ b < B) 1 z.C z.nc (ii z.cf)
  rs : Rd W (fun b => ok b ∧ b < w.heap.size) 1 z.S z.ns (bs z.sn)
  k2 : z.nc ≤ z.cc ∧ z.cc ≤ maxLen
  k3 : z.ns ≤ z.cs ∧ z.cs ≤ maxLen
  be : Below w.heap.size w W
  lt : w.heap.size + 3 < B ∧ B ≤ W.heap.size
section
variable {w W W' : World} {ok : Nat → Prop} {B : Nat} {s s' : RdS} {ns5 : Array Value} {z : Sv}
theorem DR.below (h : DR w ok W B s ns5 z) (hb : Below W.heap.size W W') : DR w ok W' B s ns5 z := by
  obtain ⟨A, n, c, h1, h2, h3⟩ := h.br
  exact ⟨h.bg.below hb, ⟨A, n, c, h1.below hb, h2.below hb, h3⟩, h.bq.below hb, h.bv.below hb, own_below h.ow hb, fun y hy => ⟨(h.dt y hy).1.below hb, (h.dt y hy).2⟩, h.rc.below hb, h.rs.below hb, h.k2, h.k3, h.be.trans (hb.mono h.be.size), h.lt.1, Nat.le_trans h.lt.2 hb.size⟩
/-- Another state of the reader. -/
theorem DR.rdr (h : DR w ok W B s ns5 z) {A : Option Addr} {n c : Nat} (hr : Rd W (fun b => ok b ∧ b < w.heap.size) 1 A n (bs s'.1)) (hn : n ≤ c ∧ c ≤ maxLen) :
    DR w ok ((W.setCell ⟨w.heap.size + 1, 0, none⟩ (.slice A n c)).setCell ⟨w.heap.size + 1, 1, none⟩ (.int .i64 s'.2)) B s' ns5 z := by
  obtain ⟨A0, n0, c0, h1, h2, h3⟩ := h.br
  have l1 := h.lt.1
  have hk : ∀ b, b ≠ w.heap.size + 1 → ((W.setCell ⟨w.heap.size + 1, 0, none⟩ (.slice A n c)).setCell ⟨w.heap.size + 1, 1, none⟩ (.int .i64 s'.2)).heap[b]? = W.heap[b]? := fun b hb => (Below.heap_setCell _ _ _ b hb).trans (Below.heap_setCell _ _ _ b hb)
  refine ⟨h.bg.keep (hk _ (by omega)), ⟨A, n, c, (h1.set 0 _).set 1 _, hr.keep fun b hb _ => hk b (by omega), hn⟩, h.bq.keep (hk _ (by omega)), h.bv.keep (hk _ (by omega)), own_set (own_set h.ow (by show w.heap.size + 1 < B; omega) _) (by show w.heap.size + 1 < B; omega) _, fun y hy => ⟨(h.dt y hy).1.keep fun b hb _ => hk b (by omega), (h.dt y hy).2⟩, h.rc.keep fun b hb _ => hk b (by omega), h.rs.keep fun b hb _ => hk b (by omega), h.k2, h.k3, (h.be.setCell (by show w.heap.size ≤ w.heap.size + 1; omega) _).setCell (by show w.heap.size ≤ w.heap.size + 1; omega) _, l1, by have := h.lt.2; simp [World.setCell]; omega⟩
theorem keepV (W : World) {v b : Nat} (hb : b ≠ v) (i : Nat) (x : Value) : (W.setCell ⟨v, i, none⟩ x).heap[b]? = W.heap[b]? := Below.heap_setCell _ _ _ b hb
theorem DR.num (h : DR w ok W B s ns5 z) (j : Nat) (x : Value) : DR w ok (W.setCell ⟨w.heap.size + 3, j, none⟩ x) B s (ns5.setIfInBounds j x) z := by
  obtain ⟨A0, n0, c0, h1, h2, h3⟩ := h.br
  have l1 := h.lt.1
  exact ⟨h.bg.keep (keepV _ (by omega) _ _), ⟨A0, n0, c0, h1.keep (keepV _ (by omega) _ _), h2.keep fun b hb _ => keepV _ (by omega) _ _, h3⟩, h.bq.set j _, h.bv.keep (keepV _ (by omega) _ _), own_set h.ow (by show w.heap.size + 3 < B; omega) _, fun y hy => ⟨(h.dt y hy).1.keep fun b hb _ => keepV _ (by omega) _ _, (h.dt y hy).2⟩, h.rc.keep fun b hb _ => keepV _ (by omega) _ _, h.rs.keep fun b hb _ => keepV _ (by omega) _ _, h.k2, h.k3, h.be.setCell (by show w.heap.size ≤ w.heap.size + 3; omega) _, l1, by have := h.lt.2; simp [World.setCell]; omega⟩
/-- The four numbers. -/
theorem DR.nums (h : DR w ok W B s ns5 z) (a b c d : Int) : DR w ok ((((W.setCell ⟨w.heap.size + 2, 0, none⟩ (.int .i64 a)).setCell ⟨w.heap.size + 2, 1, none⟩ (.int .i64 b)).setCell ⟨w.heap.size + 2, 2, none⟩ (.int .i64 c)).setCell ⟨w.heap.size + 2, 3, none⟩ (.int .i64 d)).drew B s ns5 { z with tm := a, vt := b, b := c, t := d } := by
  obtain ⟨A0, n0, c0, h1, h2, h3⟩ := h.br
  have l1 := h.lt.1
  have hk : ∀ i, i ≠ w.heap.size + 2 → (((((W.setCell ⟨w.heap.size + 2, 0, none⟩ (.int .i64 a)).setCell ⟨w.heap.size + 2, 1, none⟩ (.int .i64 b)).setCell ⟨w.heap.size + 2, 2, none⟩ (.int .i64 c)).setCell ⟨w.heap.size + 2, 3, none⟩ (.int .i64 d)).drew).heap[i]? = W.heap[i]? := fun i hi => ((((keepV _ hi _ _).trans (keepV _ hi _ _)).trans (keepV _ hi _ _)).trans (keepV _ hi _ _))
  have ho : ∀ {X : World}, X.ownsRow B 93 4 (.slice z.A z.n z.c) z.n (flat ecell z.L) → ∀ i v, (X.setCell ⟨w.heap.size + 2, i, none⟩ v).ownsRow B 93 4 (.slice z.A z.n z.c) z.n (flat ecell z.L) := fun hx i v => own_set hx (by show w.heap.size + 2 < B; omega) v
  exact ⟨h.bg.keep (hk _ (by omega)), ⟨A0, n0, c0, h1.keep (hk _ (by omega)), h2.keep fun i hi _ => hk i (by omega), h3⟩, h.bq.keep (hk _ (by omega)), (((((h.bv.set 0 _).set 1 _).set 2 _).set 3 _)).drew, (ho (ho (ho (ho h.ow 0 _) 1 _) 2 _) 3 _).drew, fun y hy => ⟨(h.dt y hy).1.keep fun i hi _ => hk i (by omega), (h.dt y hy).2⟩, h.rc.keep fun i hi _ => hk i (by omega), h.rs.keep fun i hi _ => hk i (by omega), h.k2, h.k3, ((((h.be.setCell (p := ⟨w.heap.size + 2, 0, none⟩) (by show w.heap.size ≤ w.heap.size + 2; omega) _).setCell (p := ⟨w.heap.size + 2, 1, none⟩) (by show w.heap.size ≤ w.heap.size + 2; omega) _).setCell (p := ⟨w.heap.size + 2, 2, none⟩) (by show w.heap.size ≤ w.heap.size + 2; omega) _).setCell (p := ⟨w.heap.size + 2, 3, none⟩) (by show w.heap.size ≤ w.heap.size + 2; omega) _).drew, l1, by have := h.lt.2; simp [World.setCell]; omega⟩
/-- The text. -/
theorem DR.snap (h : DR w ok W B s ns5 z) {S : Option Addr} {ns cs : Nat} {sn : List UInt8} (hr : Rd W (fun b => ok b ∧ b < w.heap.size) 1 S ns (bs sn)) (hn : ns ≤ cs ∧ cs ≤ maxLen) :
    DR w ok (W.setCell ⟨w.heap.size + 2, 6, none⟩ (.slice S ns cs)) B s ns5 { z with S := S, ns := ns, cs := cs, sn := sn } := by
  obtain ⟨A0, n0, c0, h1, h2, h3⟩ := h.br
  have l1 := h.lt.1
  exact ⟨h.bg.keep (keepV _ (by omega) _ _), ⟨A0, n0, c0, h1.keep (keepV _ (by omega) _ _), h2.keep fun b hb _ => keepV _ (by omega) _ _, h3⟩, h.bq.keep (keepV _ (by omega) _ _), h.bv.set 6 _, own_set h.ow (by show w.heap.size + 2 < B; omega) _, fun y hy => ⟨(h.dt y hy).1.keep fun b hb _ => keepV _ (by omega) _ _, (h.dt y hy).2⟩, h.rc.keep fun b hb _ => keepV _ (by omega) _ _, hr.keep fun b hb _ => keepV _ (by omega) _ _, h.k2, hn, h.be.setCell (by show w.heap.size ≤ w.heap.size + 2; omega) _, l1, by have := h.lt.2; simp [World.setCell]; omega⟩
/-- The members, newly made. -/
theorem DR.conf (h : DR w ok W B s ns5 z) (hA : z.A = none) (hz : z.n = 0) (hc : z.c = 0) (hL : z.L = []) {C : Option Addr} {nc cc : Nat} {cf : List Int} (hr : Rd W (w.heap.size + 3 < ·) 1 C nc (ii cf)) (hn : nc ≤ cc ∧ cc ≤ maxLen) :
    DR w ok (W.setCell ⟨w.heap.size + 2, 5, none⟩ (.slice C nc cc)) W.heap.size s ns5 { z with C := C, nc := nc, cc := cc, cf := cf } := by
  obtain ⟨A0, n0, c0, h1, h2, h3⟩ := h.br
  have l1 := h.lt.1
  have l2 := h.lt.2
  refine ⟨h.bg.keep (keepV _ (by omega) _ _), ⟨A0, n0, c0, h1.keep (keepV _ (by omega) _ _), h2.keep fun b hb _ => keepV _ (by omega) _ _, h3⟩, h.bq.keep (keepV _ (by omega) _ _), h.bv.set 5 _, ?_, fun y hy => ⟨(h.dt y hy).1.keep fun b hb _ => keepV _ (by omega) _ _, (h.dt y hy).2⟩, (hr.lt (by omega)).keep (fun b hb _ => keepV _ (by have := hb.1; omega) _ _), h.rs.keep fun b hb _ => keepV _ (by omega) _ _, hn, h.k3, h.be.setCell (by show w.heap.size ≤ w.heap.size + 2; omega) _, by omega, by simp [World.setCell]⟩
  show World.ownsRow _ _ _ 4 (.slice z.A z.n z.c) z.n (flat ecell z.L)
  rw [hA, hz, hc, hL]
  exact World.ownsRow_nil _ _ _ _
/-- An entry more. -/
theorem DR.push (h : DR w ok W B s ns5 z) {y : Er} {W2 : World} {A2 : Option Addr} {c2 : Nat} (hy : Rd W (fun b => ok b ∧ b < w.heap.size) 1 y.A y.n (bs y.d)) (hy1 : y.n ≤ y.m) (hy2 : y.m ≤ maxLen)
    (ho : W2.ownsRow B 93 4 (.slice A2 (z.n + 1) c2) (z.n + 1) (flat ecell z.L ++ ecell y)) (hg : W.grownBy W2 (z.A.map (·.block))) :
    DR w ok (W2.setCell ⟨w.heap.size + 2, 4, none⟩ (.slice A2 (z.n + 1) c2)) B s ns5 { z with A := A2, n := z.n + 1, c := c2, L := z.L ++ [y] } := by
  obtain ⟨A0, n0, c0, h1, h2, h3⟩ := h.br
  obtain ⟨l1, l2⟩ := h.lt
  have hbB : Below B W W2 := ⟨hg.os, hg.tape, hg.output, hg.size, fun i hi => hg.block i (by omega) fun e => by have := (own_lt h.ow i e.symm).1; omega⟩
  have hk : ∀ b, b < B → b ≠ w.heap.size + 2 → (W2.setCell ⟨w.heap.size + 2, 4, none⟩ (.slice A2 (z.n + 1) c2)).heap[b]? = W.heap[b]? := fun b q1 q2 => (Below.heap_setCell _ _ _ b q2).trans (hbB.block b q1)
  refine ⟨h.bg.keep (hk _ (by omega) (by omega)), ⟨A0, n0, c0, h1.keep (hk _ (by omega) (by omega)), h2.keep fun b hb _ => hk b (by omega) (by omega), h3⟩, h.bq.keep (hk _ (by omega) (by omega)), (h.bv.keep (hbB.block _ (by omega))).set 4 _, ?_, ?_, h.rc.keep fun b hb _ => hk b hb.2 (by omega), h.rs.keep fun b hb _ => hk b (by omega) (by omega), h.k2, h.k3, (h.be.trans (hbB.mono (by omega))).setCell (by show w.heap.size ≤ w.heap.size + 2; omega) _, l1, by have := hbB.size; simp [World.setCell]; omega⟩
  · have e : flat ecell (z.L ++ [y]) = flat ecell z.L ++ ecell y := by simp [flat]
    show World.ownsRow _ _ _ 4 (.slice A2 (z.n + 1) c2) (z.n + 1) (flat ecell (z.L ++ [y]))
    rw [e]
    exact own_set ho (by show w.heap.size + 2 < B; omega) _
  · intro x hx
    rcases List.mem_append.1 hx with hx | hx
    · exact ⟨(h.dt x hx).1.keep fun b hb _ => hk b (by omega) (by omega), (h.dt x hx).2⟩
    · obtain rfl := List.mem_singleton.1 hx
      exact ⟨hy.keep fun b hb _ => hk b (by omega) (by omega), hy1, hy2⟩
theorem DR.at (h : DR w ok W B s ns5 z) : z.At W (fun b => (ok b ∧ b < w.heap.size) ∨ w.heap.size < b) := by
  obtain ⟨l1, l2⟩ := h.lt
  exact ⟨(Rd.of_own h.ow).mono fun b hb => .inr (by omega), fun y hy => ⟨(h.dt y hy).1.mono fun b hb => .inl hb, (h.dt y hy).2⟩, h.rc.mono fun b hb => .inr (by omega), h.rs.mono fun b hb => .inl hb, own_cp h.ow, h.k2, h.k3⟩
end
def DecRPost (W : World) (ok : Nat → Prop) : Option (Nat × St) → Ending → World → Prop
  | none, e, w' => e = .returned (.tuple #[.int .i64 0, .agg z7, .int .i64 3]) ∧ Below W.heap.size W w'
  | some x, e, w' => ∃ s : Sv, e = .returned (.tuple #[.int .i64 (x.1 : Nat), s.val, .int .i64 0]) ∧ s.At w' (fun b => (ok b ∧ b < W.heap.size) ∨ W.heap.size < b) ∧ s.st = x.2 ∧ s.Fit ∧ Below W.heap.size W w'
theorem DecRPost_none (W : World) (ok : Nat → Prop) (e : Ending) (w' : World) : DecRPost W ok none e w' = (e = .returned (.tuple #[.int .i64 0, .agg z7, .int .i64 3]) ∧ Below W.heap.size W w') := rfl
theorem DecRPost_some (W : World) (ok : Nat → Prop) (x : Nat × St) (e : Ending) (w' : World) : DecRPost W ok (some x) e w' = (∃ s : Sv, e = .returned (.tuple #[.int .i64 (x.1 : Nat), s.val, .int .i64 0]) ∧ s.At w' (fun b => (ok b ∧ b < W.heap.size) ∨ W.heap.size < b) ∧ s.st = x.2 ∧ s.Fit ∧ Below W.heap.size W w') := rfl
theorem bytesS_err {m : Nat} {s : RdS} (h : s.2 ≠ 0) : bytesS m s = (s, []) := by
  have : numS 98 58 s = (s, none) := by unfold numS; rw [if_pos h]
  exact bytesS_none this
theorem uintS_err {m : Nat} {s : RdS} (h : s.2 ≠ 0) : uintS m s = (s, 0) := by
  have : numS 110 59 s = (s, none) := by unfold numS; rw [if_pos h]
  exact uintS_none this
theorem entD_nil : entD [] = none := by decide
theorem listS_err {m : Nat} {s : RdS} (h : s.2 ≠ 0) : (listS (m + 1) s).2 = none := by
  rw [listS_none (bytesS_err h) entD_nil]
theorem doneS_err {s : RdS} (h : s.2 ≠ 0) : doneS s ≠ 0 := by
  unfold doneS
  rw [if_neg (fun hh => h hh.1)]
  exact h
set_option maxHeartbeats 6400000 in
theorem kdecR_any (A : Option Addr) (n c : Nat) (l : List UInt8) (w : World) {ok : Nat → Prop} (hr : Rd w ok 1 A n (bs l)) (h1 : n ≤ c) (h2 : c ≤ maxLen) :
    Calls Tryz.prog 22 #[.slice A n c] w (DecRPost w ok (stD l)) := by
  obtain ⟨W0, hW0⟩ : ∃ W0, W0 = w.alloc (.cells z7 50) := ⟨_, rfl⟩
  have b0 : Bx W0 w.heap.size z7 := by subst hW0; exact Bx.new _ _ _ rfl
  have hbe : Below w.heap.size w W0 := by subst hW0; exact (Below.refl _ _).alloc (Nat.le_refl _) _
  have hz : W0.heap.size = w.heap.size + 1 := by subst hW0; simp
  have r0 := (hr.lt (by omega)).below hbe
  obtain ⟨sF, nF, hF0, hF⟩ := five_s l
  obtain ⟨⟨s5, x⟩, hX⟩ : ∃ q, bytesS 512 (sF 5) = q := ⟨_, rfl⟩
  obtain ⟨⟨s6, sn⟩, hSn⟩ : ∃ q, bytesS 1048576 s5 = q := ⟨_, rfl⟩
  obtain ⟨⟨s7, m⟩, hM⟩ : ∃ q, countS 4096 s6 = q := ⟨_, rfl⟩
  obtain ⟨⟨s8, es⟩, hE⟩ : ∃ q, listS m s7 = q := ⟨_, rfl⟩
  have hD : stD l = Raw.fin ⟨nF 0, nF 1, nF 2, nF 3, nF 4, x, sn, es⟩ s8 := stD_eq (stS_eq (hF0 ▸ hF 0) (hF 1) (hF 2) (hF 3) (hF 4) hX hSn hM hE)
  have hnF : ∀ j, nF j ≤ 1099511627776 := fun j => by have := uintS_le 1099511627776 (sF j); rw [hF] at this; exact this
  have hsnm : sn.length ≤ 1048576 := by have := bytesS_le 1048576 s5; rw [hSn] at this; exact this
  have hm : m ≤ 4096 := by have := countS_le 4096 s6; rw [hM] at this; exact this
  have u1 : ∀ W A n c j, Rd W (fun b => ok b ∧ b < w.heap.size) 1 A n (bs (sF j).1) → n ≤ c → c ≤ maxLen → Calls Tryz.prog 50 #[.agg #[.slice A n c, .int .i64 (sF j).2], .int .u64 1099511627776] W (RdRPost W (fun b => ok b ∧ b < w.heap.size) (sF (j + 1)) (.int .u64 (nF j : Nat))) := fun W A n c j h k1 k2 => by have := readUint_any A n c (sF j).2 (sF j).1 1099511627776 W h k1 k2; rw [show ((sF j).1, (sF j).2) = sF j from rfl, hF] at this; exact this
  have u2 : ∀ W A n c, Rd W (fun b => ok b ∧ b < w.heap.size) 1 A n (bs (sF 5).1) → n ≤ c → c ≤ maxLen → Calls Tryz.prog 51 #[.agg #[.slice A n c, .int .i64 (sF 5).2], .int .i64 512] W (RunRPost W (fun b => ok b ∧ b < w.heap.size) s5 x) := fun W A n c h k1 k2 => by have := readBytes_any A n c (sF 5).2 (sF 5).1 512 W h k1 k2 (by omega); rw [show ((sF 5).1, (sF 5).2) = sF 5 from rfl, hX] at this; exact this
  have u3 : ∀ W A n c, Rd W (fun b => ok b ∧ b < w.heap.size) 1 A n (bs s5.1) → n ≤ c → c ≤ maxLen → Calls Tryz.prog 51 #[.agg #[.slice A n c, .int .i64 s5.2], .int .i64 1048576] W (RunRPost W (fun b => ok b ∧ b < w.heap.size) s6 sn) := fun W A n c h k1 k2 => by have := readBytes_any A n c s5.2 s5.1 1048576 W h k1 k2 (by omega); rw [show (s5.1, s5.2) = s5 from rfl, hSn] at this; exact this
  have u4 : ∀ W A n c, Rd W (fun b => ok b ∧ b < w.heap.size) 1 A n (bs s6.1) → n ≤ c → c ≤ maxLen → Calls Tryz.prog 53 #[.agg #[.slice A n c, .int .i64 s6.2], .int .i64 4096] W (RdRPost W (fun b => ok b ∧ b < w.heap.size) s7 (.int .i64 (m : Nat))) := fun W A n c h k1 k2 => by have := readCount_any A n c s6.2 s6.1 4096 W h k1 k2 (by omega); rw [show (s6.1, s6.2) = s6 from rfl, hM] at this; exact this
  have wF : ∀ j, IntKind.i64.wrap ((nF j : Nat) : Int) = (nF j : Nat) := fun j => by have := hnF j; rw [IntKind.wrap_i64]; omega
  obtain ⟨W1, hW1⟩ : ∃ W1, W1 = ((W0.alloc (.cells #[.slice A n c, .int .i64 0] 109)).alloc (.cells z7 50)).alloc (.cells #[.int .u64 0, .int .u64 0, .int .u64 0, .int .u64 0, .int .u64 0] 110) := ⟨_, rfl⟩
  have d1 : DR w ok W1 (w.heap.size + 4) (sF 0) #[.int .u64 0, .int .u64 0, .int .u64 0, .int .u64 0, .int .u64 0] ⟨0, 0, 0, 0, none, 0, 0, [], none, 0, 0, [], none, 0, 0, []⟩ := by
    have k1 : Below W0.heap.size W0 W1 := by subst hW1; exact (((Below.refl _ _).alloc (Nat.le_refl _) _).alloc (by simp) _).alloc (by simp; omega) _
    have hs1 : W1.heap.size = w.heap.size + 4 := by subst hW1; simp [hz]
    refine ⟨b0.below k1, ⟨A, n, c, ?_, ?_, h1, h2⟩, ?_, ?_, World.ownsRow_nil _ _ _ _, (fun y hy => by cases hy), Rd.none_, Rd.none_, ⟨Nat.le_refl _, Nat.zero_le _⟩, ⟨Nat.le_refl _, Nat.zero_le _⟩, hbe.trans (k1.mono hbe.size), by omega, by omega⟩
    · rw [hF0]; subst hW1; exact ((Bx.new _ _ _ hz.symm).alloc _).alloc _
    · rw [hF0]; exact r0.below k1
    · subst hW1; exact Bx.new _ _ _ (by simp [hz])
    · subst hW1; exact (Bx.new _ _ _ (by simp [hz])).alloc _
  have HW := Lib.hid hW0
  have HW1 := Lib.hid hW1
  have U := Lib.hid (And.intro u1 (And.intro u2 (And.intro u3 u4)))
  have HD := Lib.hid hD
  have HE := Lib.hid hE
  have HnF := Lib.hid hnF
  have WF := Lib.hid wF
  have D1 := Lib.hid d1
  clear hW0 hW1 u1 u2 u3 u4 hD hE hF0 hF hX hSn hM hnF wF b0 hbe hz hr r0 d1
  go_enter Tryz.func22, Tryz.ntmps22
  go_upto_region 1 with (fail)
  have HW' := HW.out
  unfold z7 at HW'
  rw [← HW']
  clear HW'
  have hsz0 : W0.heap.size = w.heap.size + 1 := by rw [HW.out]; simp
  go_upto_region 4 with (fail)
  have HW' := HW1.out
  unfold z7 at HW'
  rw [← HW']
  clear HW'
  have e3 : w.heap.size + 1 + 1 + 1 = w.heap.size + 3 := rfl
  have e2 : w.heap.size + 1 + 1 = w.heap.size + 2 := rfl
  try rw [e3]
  try rw [e2]
  clear hsz0 e2 e3
  go_wp2_with fail
  go_loopg [8] 5 (fun k s8' wr => ∃ (j : Nat) (cs : Array Value), k = 5 - j ∧ j ≤ 5 ∧ s8' = .int .i64 j ∧ cs.size = 5 ∧ (∀ i, i < j → cs[i]? = some (.int .u64 (nF i : Nat))) ∧ DR w ok wr (w.heap.size + 4) (sF j) cs ⟨0, 0, 0, 0, none, 0, 0, [], none, 0, 0, [], none, 0, 0, []⟩)
  case atStart => exact ⟨0, _, by omega, by omega, rfl, rfl, fun i hi => absurd hi (by omega), D1.out⟩
  case round =>
    obtain ⟨j, cs, hk, hj, rfl, hcs, hci, hdr⟩ := hrel
    have Hk := Lib.hid hk
    have J := Lib.hid (And.intro hcs (And.intro hci hdr))
    clear hk hcs hci hdr
    by_cases hlt : j < 5
    · have hltI : (j : Int) < 5 := by omega
      have h0I : (0 : Int) ≤ j := by omega
      obtain ⟨Aj, nj, cj, x1, x2, x3, x4⟩ := J.out.2.2.br
      have hu := U.out.1 wr Aj nj cj j x2 x3 x4
      obtain ⟨c0', c1', -⟩ := x1.c2
      have Hu := Lib.hid hu
      clear hu x1 x2 x3 x4
      go_wp2_with fail
      refine Hu.out.mono ?_
      rintro e w3 ⟨A3, n3, c3, rfl, r3, hn3, hc3, hb3⟩
      have d3 := J.out.2.2.below hb3
      obtain ⟨A4, n4, c4, x1, -⟩ := d3.br
      obtain ⟨vj, hvj⟩ : ∃ vj, cs[j]? = some vj := ⟨_, Array.getElem?_eq_getElem (by have := J.out.1; omega)⟩
      have cq : w3.cell? ⟨w.heap.size + 3, j, none⟩ = some vj := (d3.bq.c j).trans hvj
      have fq : w3.frozen? ⟨w.heap.size + 3, j, none⟩ = false := d3.bq.f j
      clear c0' c1'
      obtain ⟨c0', c1', -⟩ := x1.c2
      have f0' := x1.f 0
      have f1' := x1.f 1
      have K3 := Lib.hid (And.intro (d3.rdr r3 ⟨hn3, hc3⟩) hvj)
      clear x1 d3 r3 hn3 hc3 hb3 hvj
      go_wp2_with fail
      go_roundg (5 - (j + 1))
      case measure => have := Hk.out; omega
      case rel =>
        refine ⟨j + 1, cs.setIfInBounds j (.int .u64 (nF j : Nat)), rfl, by omega, by go_num, by simp [J.out.1], fun i hi => ?_, K3.out.1.num j _⟩
        by_cases hij : j = i
        · subst hij
          rw [Array.getElem?_setIfInBounds_self_of_lt (by have := J.out.1; omega)]
        · rw [Array.getElem?_setIfInBounds_ne hij]
          exact J.out.2.1 i (by omega)
    · obtain rfl : j = 5 := by omega
      have bq := J.out.2.2.bq
      have hff := fun W (h : Bx W (w.heap.size + 3) cs) => And.intro ((h.c 0).trans (J.out.2.1 0 (by omega))) (And.intro ((h.c 1).trans (J.out.2.1 1 (by omega))) (And.intro ((h.c 2).trans (J.out.2.1 2 (by omega))) (And.intro ((h.c 3).trans (J.out.2.1 3 (by omega))) ((h.c 4).trans (J.out.2.1 4 (by omega))))))
      have hff2 := fun W (h : Bx W (w.heap.size + 3) cs) => And.intro (hff W h) (And.intro (WF.out 0) (And.intro (WF.out 1) (And.intro (WF.out 2) (And.intro (WF.out 3) (WF.out 4)))))
      have FF := Lib.hid hff2
      have FQ := Lib.hid hff
      have bv := J.out.2.2.bv
      obtain ⟨v0, v1, v2, v3, v4, v5, v6⟩ := Sv.c7 bv
      have g0 := bv.f 0
      have g1 := bv.f 1
      have g2 := bv.f 2
      have g3 := bv.f 3
      have S8 := Lib.hid (And.intro bq.drew bq)
      clear bq hff hff2 bv
      go_upto_region 8 with (fail)
      refine wp_region_S 21 (fun W => Bx W (w.heap.size + 3) cs) (.take 0 (.take 1 (.take 2 (.take 3 (.take 4 (.take 5 (.take 6 (.take 7 (.take 8 (.take 9 (.take 10 (.take 11 (.take 12 (.one 13 (.take 14 (.one 15 (.take 16 (.take 17 (.one 18 (.take 19 (.take 20 (.one 21 (.nil))))))))))))))))))))))) (by kernel_rfl) S8.out.1 (fun _ _ _ _ h => h) (fun hS => ?_)
      repeat (first
        | (refine wpS_take (v := ?_) rfl rfl (by rfl) ?_ ?_; rotate_left; (intro W hW; have hf := FF.out W hW; go_split_ands; go_simp; try with_reducible rfl); try simp only [Act.put, List.setIfInBounds_toArray, List.set_cons_zero, List.set_cons_succ])
        | (refine wpS_skip rfl rfl (by rfl) ?_; try simp only [Act.put, List.setIfInBounds_toArray, List.set_cons_zero, List.set_cons_succ]))
      refine wpS_one rfl (by rfl) (fun K hK => ?_)
      go_simp
      refine hK (fun W => Bx W (w.heap.size + 3) cs) _ _ (fun _ h => h) ((S8.out.2.far (by show w.heap.size + 3 ≠ w.heap.size + 2; omega) _).drew) ?_
      clear hK K
      try simp only [Act.put, List.setIfInBounds_toArray, List.set_cons_zero, List.set_cons_succ]
      repeat (first
        | (refine wpS_take (v := ?_) rfl rfl (by rfl) ?_ ?_; rotate_left; (intro W hW; have hf := FF.out W hW; go_split_ands; go_simp; try with_reducible rfl); try simp only [Act.put, List.setIfInBounds_toArray, List.set_cons_zero, List.set_cons_succ])
        | (refine wpS_skip rfl rfl (by rfl) ?_; try simp only [Act.put, List.setIfInBounds_toArray, List.set_cons_zero, List.set_cons_succ]))
      refine wpS_one rfl (by rfl) (fun K hK => ?_)
      go_simp
      refine hK (fun W => Bx W (w.heap.size + 3) cs) _ _ (fun _ h => h) (((S8.out.2.far (by show w.heap.size + 3 ≠ w.heap.size + 2; omega) _).far (by show w.heap.size + 3 ≠ w.heap.size + 2; omega) _).drew) ?_
      clear hK K
      try simp only [Act.put, List.setIfInBounds_toArray, List.set_cons_zero, List.set_cons_succ]
      repeat (first
        | (refine wpS_take (v := ?_) rfl rfl (by rfl) ?_ ?_; rotate_left; (intro W hW; have hf := FF.out W hW; go_split_ands; go_simp; try with_reducible rfl); try simp only [Act.put, List.setIfInBounds_toArray, List.set_cons_zero, List.set_cons_succ])
        | (refine wpS_skip rfl rfl (by rfl) ?_; try simp only [Act.put, List.setIfInBounds_toArray, List.set_cons_zero, List.set_cons_succ]))
      refine wpS_one rfl (by rfl) (fun K hK => ?_)
      go_simp
      refine hK (fun W => Bx W (w.heap.size + 3) cs) _ _ (fun _ h => h) ((((S8.out.2.far (by show w.heap.size + 3 ≠ w.heap.size + 2; omega) _).far (by show w.heap.size + 3 ≠ w.heap.size + 2; omega) _).far (by show w.heap.size + 3 ≠ w.heap.size + 2; omega) _).drew) ?_
      clear hK K
      try simp only [Act.put, List.setIfInBounds_toArray, List.set_cons_zero, List.set_cons_succ]
      repeat (first
        | (refine wpS_take (v := ?_) rfl rfl (by rfl) ?_ ?_; rotate_left; (intro W hW; have hf := FF.out W hW; go_split_ands; go_simp; try with_reducible rfl); try simp only [Act.put, List.setIfInBounds_toArray, List.set_cons_zero, List.set_cons_succ])
        | (refine wpS_skip rfl rfl (by rfl) ?_; try simp only [Act.put, List.setIfInBounds_toArray, List.set_cons_zero, List.set_cons_succ]))
      refine wpS_last rfl (by rfl) (fun K hK => ?_)
      go_simp
      refine hK _ _ ?_
      clear hK K
      try simp only [Act.put, List.setIfInBounds_toArray, List.set_cons_zero, List.set_cons_succ]
      refine wpS_nil ?_
      obtain ⟨W9, hW9⟩ : ∃ W9, W9 = ((((wr.setCell ⟨w.heap.size + 2, 0, none⟩ (.int .i64 (nF 1 : Nat))).setCell ⟨w.heap.size + 2, 1, none⟩ (.int .i64 (nF 2 : Nat))).setCell ⟨w.heap.size + 2, 2, none⟩ (.int .i64 (nF 3 : Nat))).setCell ⟨w.heap.size + 2, 3, none⟩ (.int .i64 (nF 4 : Nat))).drew := ⟨_, rfl⟩
      have d9 := J.out.2.2.nums (nF 1 : Nat) (nF 2 : Nat) (nF 3 : Nat) (nF 4 : Nat)
      rw [← hW9] at d9 ⊢
      have D9 := Lib.hid d9
      have CI := Lib.hid (J.out.2.1 0 (by omega))
      clear hW9 d9 v0 v1 v2 v3 v4 v5 v6 g0 g1 g2 g3 hS FF FQ S8
      obtain ⟨A9, n9, c9, x1, x2, x3, x4⟩ := D9.out.br
      have hu := U.out.2.1 W9 A9 n9 c9 x2 x3 x4
      obtain ⟨c0', c1', -⟩ := x1.c2
      have Hu := Lib.hid hu
      clear hu x1 x2 x3 x4
      go_wp2_with fail
      refine Hu.out.mono ?_
      rintro e w10 ⟨A10, n10, c10, X, nx, cx, rfl, r10, rx, hn10, hc10, hnx, hcx, hb10⟩
      have d10 := D9.out.below hb10
      have rX : Rd w (fun b => ok b ∧ b < w.heap.size) 1 X nx (bs x) := rx.keep fun b hb _ => (d10.be.block b hb.2).symm
      obtain ⟨_, _, _, x1, -⟩ := d10.br
      clear c0' c1'
      obtain ⟨c0', c1', -⟩ := x1.c2
      have f0' := x1.f 0
      have f1' := x1.f 1
      have d11 := d10.rdr r10 ⟨hn10, hc10⟩
      have RX := Lib.hid (And.intro rX (And.intro hnx hcx))
      clear x1 d10 r10 hn10 hc10 rx rX hnx hcx hb10 D9
      go_upto_region 10 with (fail)
      obtain ⟨W11, hW11⟩ : ∃ W11, W11 = (w10.setCell ⟨w.heap.size + 1, 0, none⟩ (.slice A10 n10 c10)).setCell ⟨w.heap.size + 1, 1, none⟩ (.int .i64 s5.2) := ⟨_, rfl⟩
      rw [← hW11] at d11 ⊢
      have D11 := Lib.hid d11
      clear hW11 d11 c0' c1' f0' f1'
      obtain ⟨A11, n11, c11, x1, x2, x3, x4⟩ := D11.out.br
      have hu := U.out.2.2.1 W11 A11 n11 c11 x2 x3 x4
      obtain ⟨c0', c1', -⟩ := x1.c2
      have Hu2 := Lib.hid hu
      clear hu x1 x2 x3 x4
      go_wp2_with fail
      refine Hu2.out.mono ?_
      rintro e w12 ⟨A12, n12, c12, S, ns, cs6, rfl, r12, rS, hn12, hc12, hns, hcs, hb12⟩
      have d12 := D11.out.below hb12
      obtain ⟨_, _, _, x1, -⟩ := d12.br
      clear c0' c1'
      obtain ⟨c0', c1', -⟩ := x1.c2
      have f0' := x1.f 0
      have f1' := x1.f 1
      have v6 : w12.cell? ⟨w.heap.size + 2, 6, none⟩ = some (.slice none 0 0) := d12.bv.c 6
      have g6 := d12.bv.f 6
      have d13 := d12.rdr r12 ⟨hn12, hc12⟩
      have d14 := d13.snap (S := S) (ns := ns) (cs := cs6) (sn := sn) ((rS.keep fun b hb _ => (keepV _ (by omega) _ _).trans (keepV _ (by omega) _ _))) ⟨hns, hcs⟩
      have hsnl : sn.length = ns := rS.blen
      have HSn := Lib.hid hsnl
      clear x1 d12 d13 r12 hn12 hc12 rS hns hcs hb12 D11 hsnl
      go_upto_region 11 with (fail)
      obtain ⟨W14, hW14⟩ : ∃ W14, W14 = ((w12.setCell ⟨w.heap.size + 1, 0, none⟩ (.slice A12 n12 c12)).setCell ⟨w.heap.size + 1, 1, none⟩ (.int .i64 s6.2)).setCell ⟨w.heap.size + 2, 6, none⟩ (.slice S ns cs6) := ⟨_, rfl⟩
      rw [← hW14] at d14 ⊢
      have D14 := Lib.hid d14
      clear hW14 d14 c0' c1' f0' f1' v6 g6
      have hcd := cdecR_any X nx cx x W14 (RX.out.1.keep fun b hb _ => D14.out.be.block b hb.2) RX.out.2.1 RX.out.2.2
      have Hcd := Lib.hid hcd
      clear hcd
      go_wp2_with fail
      refine Hcd.out.mono ?_
      intro e w15 hpost
      obtain ⟨C, nc, cc, cf, kb, rfl, oC, hb15, hkb⟩ : ∃ C nc cc cf kb, e = .returned (.tuple #[.slice C nc cc, .int .i64 kb]) ∧ w15.ownsRow W14.heap.size 3 1 (.slice C nc cc) nc (ii cf) ∧ Below W14.heap.size W14 w15 ∧ ((kb = 0 ∧ confD x = some cf) ∨ (kb ≠ 0 ∧ confD x = none)) := by
        obtain ⟨oc, hoc⟩ : ∃ oc, confD x = oc := ⟨_, rfl⟩
        rw [hoc] at hpost ⊢
        cases oc with
        | none =>
          rw [CdPost_none] at hpost
          exact ⟨none, 0, 0, [], 3, hpost.1, World.ownsRow_nil _ _ _ _, hpost.2, .inr ⟨by decide, rfl⟩⟩
        | some cf =>
          rw [CdPost_some] at hpost
          obtain ⟨C, nc, cc, h3, h4, h5⟩ := hpost
          exact ⟨C, nc, cc, cf, 0, h3, h4, h5, .inl ⟨rfl, rfl⟩⟩
      clear hpost
      have d15 := D14.out.below hb15
      have v5 : w15.cell? ⟨w.heap.size + 2, 5, none⟩ = some (.slice none 0 0) := d15.bv.c 5
      have g5 := d15.bv.f 5
      have d16 := d15.conf rfl rfl rfl rfl ((Rd.of_own oC).mono fun b hb => by have := D14.out.lt; omega) (own_cp oC)
      have KB := Lib.hid (And.intro hkb (ii_len (Rd.of_own oC)))
      obtain ⟨B, hB⟩ : ∃ B, w15.heap.size = B := ⟨_, rfl⟩
      rw [hB] at d16
      clear d15 hb15 oC hkb hB D14
      go_upto_region 13 with (fail)
      obtain ⟨W16, hW16⟩ : ∃ W16, W16 = w15.setCell ⟨w.heap.size + 2, 5, none⟩ (.slice C nc cc) := ⟨_, rfl⟩
      rw [← hW16] at d16 ⊢
      have D16 := Lib.hid d16
      clear hW16 d16 v5 g5
      obtain ⟨A16, n16, c16, x1, x2, x3, x4⟩ := D16.out.br
      have hu := U.out.2.2.2 W16 A16 n16 c16 x2 x3 x4
      obtain ⟨c0', c1', -⟩ := x1.c2
      have Hu3 := Lib.hid hu
      clear hu x1 x2 x3 x4
      go_wp2_with fail
      refine Hu3.out.mono ?_
      rintro e w17 ⟨A17, n17, c17, rfl, r17, hn17, hc17, hb17⟩
      have d17 := D16.out.below hb17
      obtain ⟨_, _, _, x1, -⟩ := d17.br
      clear c0' c1'
      obtain ⟨c0', c1', -⟩ := x1.c2
      have f0' := x1.f 0
      have f1' := x1.f 1
      have d18 := d17.rdr r17 ⟨hn17, hc17⟩
      clear x1 d17 r17 hn17 hc17 hb17 D16
      go_upto_region 14 with (fail)
      obtain ⟨W18, hW18⟩ : ∃ W18, W18 = (w17.setCell ⟨w.heap.size + 1, 0, none⟩ (.slice A17 n17 c17)).setCell ⟨w.heap.size + 1, 1, none⟩ (.int .i64 s7.2) := ⟨_, rfl⟩
      rw [← hW18] at d18 ⊢
      have D18 := Lib.hid d18
      clear hW18 d18 c0' c1' f0' f1'
      obtain ⟨ob, hob⟩ : ∃ ob : Bool, (kb == 0) = ob := ⟨_, rfl⟩
      have OB := Lib.hid hob
      have hmI : (m : Int) ≤ 4096 := by omega
      have hst0 : ob = false → stD l = none := fun h => by
        rcases KB.out.1 with ⟨h3, _⟩ | ⟨_, h3⟩
        · rw [h3] at OB; rw [← OB.out] at h; cases h
        · rw [HD.out, Raw.fin_eq (oc := none) rfl h3, finS_cf]
      have Hst0 := Lib.hid hst0
      clear hst0
      go_wp2_with fail
      try rw [OB.out]
      clear hob
      go_loopg [9, 13, 14, 15, 16] m (fun k s9 s13 s14 s15 s16 wr => ∃ (j : Nat) (sj : RdS) (Aj : Option Addr) (cj : Nat) (Lj : List Er) (okb : Bool), k = m - j ∧ j ≤ m ∧ s13 = .bool okb ∧ s14 = .int .i64 j ∧ DR w ok wr B sj cs ⟨(nF 1 : Nat), (nF 2 : Nat), (nF 3 : Nat), (nF 4 : Nat), Aj, j, cj, Lj, C, nc, cc, cf, S, ns, cs6, sn⟩ ∧ (okb = false → stD l = none) ∧ (okb = true → ob = true ∧ ∃ acc : List EnS, Lj.map en = acc.map ofS ∧ (∀ y ∈ Lj, W64 y ∧ y.n ≤ 1000000) ∧ (listS m s7).1 = (listS (m - j) sj).1 ∧ (listS m s7).2 = (listS (m - j) sj).2.map (acc ++ ·)))
      case atStart => exact ⟨0, s7, none, 0, [], ob, by omega, by omega, rfl, rfl, D18.out, Hst0.out, fun h => ⟨h, [], rfl, (fun y hy => by cases hy), rfl, by simp⟩⟩
      case round =>
        obtain ⟨j, sj, Aj, cj, Lj, okb, hk2, hj2, rfl, rfl, hdr, hno, hyes⟩ := hrel
        have Hk2 := Lib.hid hk2
        have J2 := Lib.hid (And.intro hdr (And.intro hno hyes))
        clear hk2 hdr hno hyes D18
        obtain ⟨wa, rfl⟩ : ∃ wa, wa = wr := ⟨_, rfl⟩
        obtain ⟨A20, n20, c20, y1, y2, y3, y4⟩ := J2.out.1.br
        have Y := Lib.hid (And.intro y1 (And.intro y2 (And.intro y3 y4)))
        obtain ⟨c0', c1', -⟩ := y1.c2
        clear y1 y2 y3 y4
        go_upto_region 16 with (fail)
        go_cut [83] (fun s83 W => s83 = .bool (decide (j < m ∧ sj.2 = 0)) ∧ W = wa)
        case first =>
          by_cases q1 : j < m
          · have q1I : (j : Int) < m := by omega
            by_cases q2 : sj.2 = 0
            · have q2d : (sj.2 == 0) = true := by simp [q2]
              have Q2 := Lib.hid q2
              clear q2
              go_wp2_with fail
              go_meet
              case rel => exact ⟨by simp [q1, Q2.out], rfl⟩
            · have q2d : (sj.2 == 0) = false := by simp [q2]
              have Q2 := Lib.hid q2
              clear q2
              go_wp2_with fail
              go_meet
              case rel => exact ⟨by simp [Q2.out], rfl⟩
          · have q1d : decide ((j : Int) < m) = false := by simp; omega
            go_wp2_with fail
            go_meet
            case rel => exact ⟨by simp [q1], rfl⟩
        case rest =>
        obtain ⟨rfl, rfl⟩ := hcut
        by_cases hlt2 : j < m ∧ sj.2 = 0
        · have hd83 : decide (j < m ∧ sj.2 = 0) = true := by simp [hlt2]
          rw [hd83]
          obtain ⟨hjm, hs0⟩ := hlt2
          obtain ⟨⟨s', d⟩, hbd⟩ : ∃ q, bytesS 4200 sj = q := ⟨_, rfl⟩
          have hu : Calls Tryz.prog 51 #[.agg #[.slice A20 n20 c20, .int .i64 sj.2], .int .i64 4200] wc (RunRPost wc (fun b => ok b ∧ b < w.heap.size) s' d) := by
            have := readBytes_any A20 n20 c20 sj.2 sj.1 4200 wc Y.out.2.1 Y.out.2.2.1 Y.out.2.2.2 (by omega)
            rw [show (sj.1, sj.2) = sj from rfl, hbd] at this
            exact this
          have Hu5 := Lib.hid hu
          have Hbd := Lib.hid (And.intro hbd hs0)
          clear hu hbd hs0 hd83
          go_wp2_with fail
          refine Hu5.out.mono ?_
          rintro e w21 ⟨A21, n21, c21, X1, nx1, cx1, rfl, r21, rx, hn21, hc21, hnx, hcx, hb21⟩
          have d21 := J2.out.1.below hb21
          have rX : Rd w (fun b => ok b ∧ b < w.heap.size) 1 X1 nx1 (bs d) := rx.keep fun b hb _ => (d21.be.block b hb.2).symm
          obtain ⟨_, _, _, x1, -⟩ := d21.br
          clear c0' c1'
          obtain ⟨c0', c1', -⟩ := x1.c2
          have f0' := x1.f 0
          have f1' := x1.f 1
          have d22 := d21.rdr r21 ⟨hn21, hc21⟩
          have RX1 := Lib.hid (And.intro rX (And.intro hnx hcx))
          clear x1 d21 r21 hn21 hc21 rx rX hnx hcx hb21
          go_upto_region 19 with (fail)
          obtain ⟨W22, hW22⟩ : ∃ W22, W22 = (w21.setCell ⟨w.heap.size + 1, 0, none⟩ (.slice A21 n21 c21)).setCell ⟨w.heap.size + 1, 1, none⟩ (.int .i64 s'.2) := ⟨_, rfl⟩
          rw [← hW22] at d22 ⊢
          have D22 := Lib.hid d22
          clear hW22 d22 c0' c1' f0' f1'
          have hdec := decodeR_any X1 nx1 cx1 d W22 (RX1.out.1.keep fun b hb _ => D22.out.be.block b hb.2) RX1.out.2.1 RX1.out.2.2
          have Hdec := Lib.hid hdec
          clear hdec
          go_wp2_with fail
          refine Hdec.out.mono ?_
          intro e w23 hpost
          obtain ⟨ye, ke, rfl, hre, hne, hme, hb23, hke⟩ : ∃ (ye : Er) (ke : Int), e = .returned (.tuple #[.agg #[.int .i64 ye.a, .int .i64 ye.b, .int .i64 ye.c, .slice ye.A ye.n ye.m], .int .i64 ke]) ∧ Rd w23 (fun b => ok b ∧ b < w.heap.size) 1 ye.A ye.n (bs ye.d) ∧ ye.n ≤ ye.m ∧ ye.m ≤ maxLen ∧ Below W22.heap.size W22 w23 ∧ ((ke ≠ 0 ∧ entD d = none) ∨ (ke = 0 ∧ ∃ xe, entD d = some xe ∧ en ye = ofS xe ∧ W64 ye ∧ ye.n ≤ 1000000)) := by
            obtain ⟨oe, hoe⟩ : ∃ oe, entD d = oe := ⟨_, rfl⟩
            rw [hoe] at hpost
            cases oe with
            | none =>
              rw [EntPost_none] at hpost
              exact ⟨⟨0, 0, 0, none, 0, 0, []⟩, 3, hpost.1, Rd.none_, Nat.le_refl _, Nat.zero_le _, hpost.2, .inl ⟨by decide, hoe⟩⟩
            | some xe =>
              rw [EntPost_some] at hpost
              obtain ⟨A5, n5, c5, h1, r5, hn5, hc5, hb⟩ := hpost
              obtain ⟨_, ke1, ke2, ke3, ke4⟩ := entD_le hoe
              have hn5' : n5 = xe.2.2.2.length := r5.blen.symm
              refine ⟨⟨(xe.1 : Nat), (xe.2.1 : Nat), (xe.2.2.1 : Nat), A5, n5, c5, xe.2.2.2⟩, 0, h1, r5, hn5, hc5, hb, .inr ⟨rfl, xe, hoe, rfl, ⟨?_, ?_, ?_⟩, ?_⟩⟩ <;> (dsimp only; try unfold I64) <;> omega
          clear hpost
          have d23 := D22.out.below hb23
          obtain ⟨W24, hW24⟩ : ∃ W24, W24 = w23.alloc (.cells #[.int .i64 ye.a, .int .i64 ye.b, .int .i64 ye.c, .slice ye.A ye.n ye.m] 93) := ⟨_, rfl⟩
          have hb24 : Below w23.heap.size w23 W24 := by subst hW24; exact (Below.refl _ _).alloc (Nat.le_refl _) _
          have x24 : Bx W24 w23.heap.size #[.int .i64 ye.a, .int .i64 ye.b, .int .i64 ye.c, .slice ye.A ye.n ye.m] := by subst hW24; exact Bx.new _ _ _ rfl
          have d24 := d23.below hb24
          have r24 := hre.below hb24
          go_upto_region 20 with (fail)
          rw [← hW24]
          obtain ⟨i0, i1, i2, i3, -⟩ := x24.c4
          have v4 : W24.cell? ⟨w.heap.size + 2, 4, none⟩ = some (.slice Aj j cj) := d24.bv.c 4
          have g4 := d24.bv.f 4
          have D24 := Lib.hid (And.intro d24 (And.intro r24 (And.intro hne (And.intro hme hke))))
          obtain ⟨q, hq⟩ : ∃ q, (ke == 0) = q := ⟨_, rfl⟩
          have HQ := Lib.hid hq
          clear hW24 hb24 x24 d24 r24 hb23 d23 hre hne hme hke
          go_cut [13] (fun s13 W => s13 = .bool (okb && q) ∧ W = W24)
          case first =>
            cases okb
            · go_wp2_with fail
              go_meet
              case rel => exact ⟨by simp, rfl⟩
            · go_wp2_with fail
              go_meet
              case rel => exact ⟨by simp, rfl⟩
          case rest =>
          obtain ⟨rfl, rfl⟩ := hcut
          clear hq
          go_wp2_with (at_builtin; refine wpList_append_any (news := [.int .i64 ye.a, .int .i64 ye.b, .int .i64 ye.c, .slice ye.A ye.n ye.m]) _ Tryz.underlying46 (by unfold Elem; kernel_rfl : Elem Tryz.prog 93 (.agg #[.int .i64 0, .int .i64 0, .int .i64 0, .slice none 0 0]) 4 48) rfl (by omega) rfl rfl rfl (D24.out.1.ow.alloc _) rfl (show Rd (wc.alloc (.cells #[.int .i64 ye.a, .int .i64 ye.b, .int .i64 ye.c, .slice ye.A ye.n ye.m] 93)) T 4 (some ⟨wc.heap.size, 0, none⟩) 1 [.int .i64 ye.a, .int .i64 ye.b, .int .i64 ye.c, .slice ye.A ye.n ye.m] from (Rd.lit4 _ _ rfl)) (by intro u hu; simp only [List.mem_cons, List.not_mem_nil, or_false] at hu; rcases hu with rfl | rfl | rfl | rfl <;> rfl) (by omega) (by have := D24.out.1.lt.2; simp; omega) rfl rfl ?_; intro A6 c7 w25 hown25 hg25 hat25; have x25 := ((D24.out.1.bv.alloc (.cells #[.int .i64 ye.a, .int .i64 ye.b, .int .i64 ye.c, .slice ye.A ye.n ye.m] 93)).grown hg25 (fun e => by have := (own_lt D24.out.1.ow _ e).1; have := D24.out.1.lt; omega)); have m4 := x25.c 4; have m4f := x25.f 4)
          go_roundg (m - (j + 1))
          case measure => have := Hk2.out; omega
          case rel =>
            have hal : Below wc.heap.size wc (wc.alloc (.cells #[.int .i64 ye.a, .int .i64 ye.b, .int .i64 ye.c, .slice ye.A ye.n ye.m] 93)) := (Below.refl _ _).alloc (Nat.le_refl _) _
            have dF := (D24.out.1.below hal).push (y := ye) (D24.out.2.1.below hal) D24.out.2.2.1 D24.out.2.2.2.1 hown25 hg25
            have hls : ∀ xe, entD d = some xe → listS (m - j) sj = ((listS (m - (j + 1)) s').1, (listS (m - (j + 1)) s').2.map (xe :: ·)) := fun xe h => by
              rw [show m - j = (m - (j + 1)) + 1 from by omega]
              exact listS_some Hbd.out.1 h
            refine ⟨j + 1, s', A6, c7, Lj ++ [ye], okb && q, rfl, by omega, rfl, by go_num, dF, ?_, ?_⟩
            · intro h
              cases hok : okb with
              | false => exact J2.out.2.1 hok
              | true =>
                rw [hok, Bool.true_and] at h
                rcases D24.out.2.2.2.2 with ⟨_, h3⟩ | ⟨h3, _⟩
                · obtain ⟨_, acc, _, _, _, h4⟩ := J2.out.2.2 hok
                  have h5 : listS (m - j) sj = (s', none) := by
                    rw [show m - j = (m - j - 1) + 1 from by omega]
                    exact listS_none Hbd.out.1 h3
                  rw [h5, HE.out] at h4
                  have h6 : es = none := h4
                  rw [HD.out, Raw.fin_eq (oe := none) h6 rfl, finS_es]
                · have h4 := HQ.out
                  rw [h3, h] at h4
                  cases h4
            · intro h
              obtain ⟨h3, h4⟩ := Bool.and_eq_true_iff.1 h
              obtain ⟨h5, acc, h6, h7, h8, h9⟩ := J2.out.2.2 h3
              rcases D24.out.2.2.2.2 with ⟨k3, _⟩ | ⟨k3, xe, k4, k5, k6⟩
              · have k4 := HQ.out
                rw [h4] at k4
                exact absurd (by simpa using k4) k3
              · refine ⟨h5, acc ++ [xe], ?_, ?_, ?_, ?_⟩
                · rw [List.map_append, List.map_append, h6]
                  show _ ++ [en ye] = _ ++ [ofS xe]
                  rw [k5]
                · intro y hy
                  rcases List.mem_append.1 hy with hy | hy
                  · exact h7 y hy
                  · obtain rfl := List.mem_singleton.1 hy
                    exact k6
                · rw [h8, hls xe k4]
                · rw [h9, hls xe k4, Option.map_map]
                  congr 1
                  funext r
                  simp
        · have hd83 : decide (j < m ∧ sj.2 = 0) = false := by simpa using hlt2
          rw [hd83]
          have hfin : okb = true → (doneS sj ≠ 0 → stD l = none) ∧ (doneS sj = 0 → j = m ∧ ∃ acc : List EnS, Lj.map en = acc.map ofS ∧ (∀ y ∈ Lj, W64 y ∧ y.n ≤ 1000000) ∧ kb = 0 ∧ stD l = finS 0 (nF 0) (fun es cf => ⟨(nF 1 : Nat), (nF 2 : Nat), (nF 3 : Nat), (nF 4 : Nat), es.map ofS, cf, sn⟩) (some acc) (some cf)) := by
            intro h
            obtain ⟨h5, acc, h6, h7, h8, h9⟩ := J2.out.2.2 h
            have hkb0 : kb = 0 := by have := OB.out; rw [h5] at this; simpa using this
            have hcf : confD x = some cf := by
              rcases KB.out.1 with ⟨_, h3⟩ | ⟨h3, _⟩
              · exact h3
              · exact absurd hkb0 h3
            by_cases hj : j = m
            · subst hj
              rw [Nat.sub_self, listS_zero] at h8 h9
              rw [HE.out] at h8 h9
              have e8 : s8 = sj := h8
              have ee : es = some acc := by have : es = (some []).map (acc ++ ·) := h9; simpa using this
              have hD2 : stD l = finS (doneS sj) (nF 0) (fun es cf => ⟨(nF 1 : Nat), (nF 2 : Nat), (nF 3 : Nat), (nF 4 : Nat), es.map ofS, cf, sn⟩) (some acc) (some cf) := by
                rw [HD.out, ← e8]
                exact Raw.fin_eq ee hcf
              exact ⟨fun hd => by rw [hD2, finS_k hd], fun hd => ⟨rfl, acc, h6, h7, hkb0, by rw [hD2, hd]⟩⟩
            · have hs : sj.2 ≠ 0 := fun hs => hlt2 ⟨by omega, hs⟩
              have h10 := listS_err (m := m - j - 1) hs
              rw [show m - j - 1 + 1 = m - j from by omega] at h10
              rw [h10, HE.out] at h9
              have h11 : es = none := h9
              exact ⟨fun _ => by rw [HD.out, Raw.fin_eq (oe := none) h11 rfl, finS_es], fun hd => absurd hd (doneS_err hs)⟩
          have hdn : Calls Tryz.prog 55 #[.agg #[.slice A20 n20 c20, .int .i64 sj.2]] wc (fun e w' => e = .returned (.int .i64 (doneS sj)) ∧ Below wc.heap.size wc w') := doneR_any A20 n20 c20 sj.2 sj.1 wc Y.out.2.1
          have Hfin := Lib.hid hfin
          have Hdn := Lib.hid hdn
          clear hfin hdn hd83 hlt2
          go_wp2_with fail
          refine Hdn.out.mono ?_
          rintro e w30 ⟨rfl, hb30⟩
          have d30 := J2.out.1.below hb30
          have D30 := Lib.hid d30
          have q0' : w30.cell? ⟨w.heap.size + 3, 0, none⟩ = some (.int .u64 (nF 0 : Nat)) := (d30.bq.c 0).trans CI.out
          clear d30 hb30 c0' c1'
          obtain ⟨dz, hdz⟩ : ∃ dz, doneS sj = dz := ⟨_, rfl⟩
          rw [hdz]
          by_cases hd0 : dz = 0
          · have hdd : (dz != 0) = false := by simp [hd0]
            have HDZ := Lib.hid (hdz.trans hd0)
            clear hdz hd0
            cases okb with
            | false =>
              have hno := J2.out.2.1 (by trivial)
              have Hno := Lib.hid hno
              clear hno
              have bgN := (D30.out).bg
              have beN := (D30.out).be
              have q0 := bgN.c 0
              have p0 := bgN.f 0
              have q1 := bgN.c 1
              have p1 := bgN.f 1
              have q2 := bgN.c 2
              have p2 := bgN.f 2
              have q3 := bgN.c 3
              have p3 := bgN.f 3
              have q4 := bgN.c 4
              have p4 := bgN.f 4
              have q5 := bgN.c 5
              have p5 := bgN.f 5
              have q6 := bgN.c 6
              have p6 := bgN.f 6
              have HN := Lib.hid (And.intro beN (Hno.out))
              clear bgN beN
              unfold z7 at *
              go_wp2_with fail
              refine bodyPost_ret (by simp [results, Tryz.results22, go_sem, q0, q1, q2, q3, q4, q5, q6]; rfl) rfl ?_
              rw [HN.out.2, DecRPost_none]
              refine ⟨rfl, ?_⟩
              iterate 7 refine Below.setCell ?_ (by exact Nat.le_refl _) _
              exact HN.out.1
            | true =>
              obtain ⟨rfl, acc, h6, h7, rfl, hst⟩ := (Hfin.out (by trivial)).2 HDZ.out
              rw [finS_some] at hst
              have HST := Lib.hid hst
              have HA := Lib.hid (And.intro h6 h7)
              clear h6 h7 hst
              by_cases hn0 : 1 ≤ nF 0
              · have hn0d : (((nF 0 : Nat) : Int) == 0) = false := by simp; omega
                obtain ⟨z, hz⟩ : ∃ z : Sv, z = ⟨(nF 1 : Nat), (nF 2 : Nat), (nF 3 : Nat), (nF 4 : Nat), Aj, j, cj, Lj, C, nc, cc, cf, S, ns, cs6, sn⟩ := ⟨_, rfl⟩
                have hfit : z.Fit := by
                  have c1 := KB.out.2
                  have c2 : nc ≤ 7 := by
                    rcases KB.out.1 with ⟨_, h3⟩ | ⟨h3, _⟩
                    · have := (cmay_small (confD_may h3)).2.1; omega
                    · exact absurd rfl h3
                  have c3 : sn.length = ns := HSn.out
                  have c4 := HnF.out
                  subst hz
                  refine ⟨⟨?_, ?_, ?_, ?_⟩, HA.out.2, by dsimp only; omega, by dsimp only; omega, by dsimp only; omega⟩
                  · have := c4 1; dsimp only; unfold I64; omega
                  · have := c4 2; dsimp only; unfold I64; omega
                  · have := c4 3; dsimp only; unfold I64; omega
                  · have := c4 4; dsimp only; unfold I64; omega
                have hat := D30.out.at
                rw [← hz] at hat
                have hst : z.st = ⟨(nF 1 : Nat), (nF 2 : Nat), (nF 3 : Nat), (nF 4 : Nat), acc.map ofS, cf, sn⟩ := by
                  subst hz
                  unfold Sv.st
                  dsimp only
                  rw [HA.out.1]
                have hzv : z.val = .agg #[.int .i64 (nF 1 : Nat), .int .i64 (nF 2 : Nat), .int .i64 (nF 3 : Nat), .int .i64 (nF 4 : Nat), .slice Aj j cj, .slice C nc cc, .slice S ns cs6] := by subst hz; rfl
                have hmy := newR_ok 1 2 0 z w30 hat hfit (by omega) (by omega) (by omega) (by omega)
                rw [hzv] at hmy
                have hD4 := HST.out
                obtain ⟨q, hq⟩ : ∃ q, St.may ⟨(nF 1 : Nat), (nF 2 : Nat), (nF 3 : Nat), (nF 4 : Nat), acc.map ofS, cf, sn⟩ = q := ⟨_, rfl⟩
                rw [hq] at hD4
                have hzq : z.st.may = q := by rw [hst]; exact hq
                have HZQ := Lib.hid hzq
                have HD4 := Lib.hid hD4
                have Hmy := Lib.hid hmy
                have HZ := Lib.hid (And.intro hz (And.intro hfit (And.intro hst hzv)))
                obtain ⟨v0, v1, v2, v3, v4, v5, v6⟩ := Sv.c7 D30.out.bv
                clear hmy hD4 hz hfit hat hst hzv hq hzq
                go_wp2_with fail
                refine Hmy.out.mono ?_
                rintro e w31 ⟨ncs, hnc, h1c, -, rfl, hb31⟩
                rw [HZQ.out]
                have K31 := Lib.hid (And.intro hnc (And.intro h1c (D30.out.below hb31)))
                have hi31 : (Tryz.prog.info? 98).map (·.size) = some ncs.size := by rw [hnc]; kernel_rfl
                have Hi31 := Lib.hid hi31
                clear hnc h1c hb31 hi31 v0 v1 v2 v3 v4 v5 v6 q0'
                have hbR : Below w31.heap.size w31 ((w31.alloc (.cells coreZ 98)).setRow w31.heap.size ncs) := below_setRow ((Below.refl _ _).alloc (Nat.le_refl _) _) (Nat.le_refl _) _
                have d32 := K31.out.2.2.below hbR
                obtain ⟨W32, hW32⟩ : ∃ W32, W32 = (w31.alloc (.cells coreZ 98)).setRow w31.heap.size ncs := ⟨_, rfl⟩
                rw [← hW32] at d32
                have D32 := Lib.hid d32
                have HW32 := Lib.hid hW32
                clear hbR d32 hW32
                cases q with
                | false =>
                  have hno : stD l = none := by rw [HD4.out, if_neg (fun h => by cases h.2.2)]
                  have Hno := Lib.hid hno
                  clear hno
                  rw [show (if false = true then (0 : Int) else 1) = 1 from rfl]
                  go_upto_region 25 with (refine wpList_store_row rfl 98 _ _ rfl w31.heap.size ncs rfl rfl _ coreZ (heap_alloc_new _ _) Hi31.out (K31.out.1.symm ▸ rfl) K31.out.2.1 ?_)
                  have HW32' := HW32.out
                  unfold coreZ at HW32'
                  rw [← HW32']
                  clear HW32'
                  have bgN := (D32.out).bg
                  have beN := (D32.out).be
                  have q0 := bgN.c 0
                  have p0 := bgN.f 0
                  have q1 := bgN.c 1
                  have p1 := bgN.f 1
                  have q2 := bgN.c 2
                  have p2 := bgN.f 2
                  have q3 := bgN.c 3
                  have p3 := bgN.f 3
                  have q4 := bgN.c 4
                  have p4 := bgN.f 4
                  have q5 := bgN.c 5
                  have p5 := bgN.f 5
                  have q6 := bgN.c 6
                  have p6 := bgN.f 6
                  have HN := Lib.hid (And.intro beN (Hno.out))
                  clear bgN beN
                  unfold z7 at *
                  go_wp2_with fail
                  refine bodyPost_ret (by simp [results, Tryz.results22, go_sem, q0, q1, q2, q3, q4, q5, q6]; rfl) rfl ?_
                  rw [HN.out.2, DecRPost_none]
                  refine ⟨rfl, ?_⟩
                  iterate 7 refine Below.setCell ?_ (by exact Nat.le_refl _) _
                  exact HN.out.1
                | true =>
                  have hyes : stD l = some (nF 0, ⟨(nF 1 : Nat), (nF 2 : Nat), (nF 3 : Nat), (nF 4 : Nat), acc.map ofS, cf, sn⟩) := by rw [HD4.out, if_pos ⟨by trivial, hn0, by trivial⟩]
                  have Hyes := Lib.hid hyes
                  clear hyes
                  rw [show (if true = true then (0 : Int) else 1) = 0 from rfl]
                  go_upto_region 25 with (refine wpList_store_row rfl 98 _ _ rfl w31.heap.size ncs rfl rfl _ coreZ (heap_alloc_new _ _) Hi31.out (K31.out.1.symm ▸ rfl) K31.out.2.1 ?_)
                  have HW32' := HW32.out
                  unfold coreZ at HW32'
                  rw [← HW32']
                  clear HW32'
                  go_wp2_with fail
                  have bgN := D32.out.bg
                  have q0 := bgN.c 0
                  have p0 := bgN.f 0
                  have q1 := bgN.c 1
                  have p1 := bgN.f 1
                  have q2 := bgN.c 2
                  have p2 := bgN.f 2
                  have q3 := bgN.c 3
                  have p3 := bgN.f 3
                  have q4 := bgN.c 4
                  have p4 := bgN.f 4
                  have q5 := bgN.c 5
                  have p5 := bgN.f 5
                  have q6 := bgN.c 6
                  have p6 := bgN.f 6
                  have hff := fun W (h : Bx W (w.heap.size + 3) cs ∧ Bx W (w.heap.size + 2) (Sv.cells ⟨(nF 1 : Nat), (nF 2 : Nat), (nF 3 : Nat), (nF 4 : Nat), Aj, j, cj, Lj, C, nc, cc, cf, S, ns, cs6, sn⟩)) => And.intro ((h.1.c 0).trans CI.out) (And.intro (Sv.c7 h.2) (WF.out 0))
                  have FS := Lib.hid hff
                  have S15 := Lib.hid (And.intro (And.intro D32.out.bq.drew D32.out.bv.drew) (And.intro D32.out.bq D32.out.bv))
                  clear hff bgN
                  unfold z7 at *
                  go_upto_region 27 with (fail)
                  refine wp_region_S 6 (fun W => Bx W (w.heap.size + 3) cs ∧ Bx W (w.heap.size + 2) (Sv.cells ⟨(nF 1 : Nat), (nF 2 : Nat), (nF 3 : Nat), (nF 4 : Nat), Aj, j, cj, Lj, C, nc, cc, cf, S, ns, cs6, sn⟩)) (.take 0 (.take 1 (.take 2 (.take 3 (.take 4 (.one 5 (.one 6 (.nil)))))))) (by kernel_rfl) S15.out.1 (fun _ _ _ _ h => h) (fun hS => ?_)
                  repeat (first
                    | (refine wpS_take (v := ?_) rfl rfl (by rfl) ?_ ?_; rotate_left; (intro W hW; have hf := FS.out W hW; go_split_ands; go_simp; try with_reducible rfl); try simp only [Act.put, List.setIfInBounds_toArray, List.set_cons_zero, List.set_cons_succ])
                    | (refine wpS_skip rfl rfl (by rfl) ?_; try simp only [Act.put, List.setIfInBounds_toArray, List.set_cons_zero, List.set_cons_succ]))
                  refine wpS_one rfl (by rfl) (fun K hK => ?_)
                  go_simp
                  refine hK (fun W => Bx W (w.heap.size + 3) cs ∧ Bx W (w.heap.size + 2) (Sv.cells ⟨(nF 1 : Nat), (nF 2 : Nat), (nF 3 : Nat), (nF 4 : Nat), Aj, j, cj, Lj, C, nc, cc, cf, S, ns, cs6, sn⟩)) _ _ (fun _ h => h) ⟨(((((((S15.out.2.1.far (by show w.heap.size + 3 ≠ w.heap.size; omega) _).far (by show w.heap.size + 3 ≠ w.heap.size; omega) _).far (by show w.heap.size + 3 ≠ w.heap.size; omega) _).far (by show w.heap.size + 3 ≠ w.heap.size; omega) _).far (by show w.heap.size + 3 ≠ w.heap.size; omega) _).far (by show w.heap.size + 3 ≠ w.heap.size; omega) _).far (by show w.heap.size + 3 ≠ w.heap.size; omega) _).drew, (((((((S15.out.2.2.far (by show w.heap.size + 2 ≠ w.heap.size; omega) _).far (by show w.heap.size + 2 ≠ w.heap.size; omega) _).far (by show w.heap.size + 2 ≠ w.heap.size; omega) _).far (by show w.heap.size + 2 ≠ w.heap.size; omega) _).far (by show w.heap.size + 2 ≠ w.heap.size; omega) _).far (by show w.heap.size + 2 ≠ w.heap.size; omega) _).far (by show w.heap.size + 2 ≠ w.heap.size; omega) _).drew⟩ ?_
                  clear hK K
                  try simp only [Act.put, List.setIfInBounds_toArray, List.set_cons_zero, List.set_cons_succ]
                  refine wpS_last rfl (by rfl) (fun K hK => ?_)
                  go_simp
                  refine hK _ _ ?_
                  clear hK K
                  try simp only [Act.put, List.setIfInBounds_toArray, List.set_cons_zero, List.set_cons_succ]
                  refine wpS_nil ?_
                  clear hS q0 q1 q2 q3 q4 q5 q6 p0 p1 p2 p3 p4 p5 p6
                  go_wp2_with fail
                  obtain ⟨W16, hW16⟩ : ∃ W16, W16 = (((((((W32.setCell ⟨w.heap.size, 0, none⟩ (.int .i64 (nF 1 : Nat))).setCell ⟨w.heap.size, 1, none⟩ (.int .i64 (nF 2 : Nat))).setCell ⟨w.heap.size, 2, none⟩ (.int .i64 (nF 3 : Nat))).setCell ⟨w.heap.size, 3, none⟩ (.int .i64 (nF 4 : Nat))).setCell ⟨w.heap.size, 4, none⟩ (.slice Aj j cj)).setCell ⟨w.heap.size, 5, none⟩ (.slice C nc cc)).setCell ⟨w.heap.size, 6, none⟩ (.slice S ns cs6)).drew := ⟨_, rfl⟩
                  have x16 : Bx W16 w.heap.size (Sv.cells ⟨(nF 1 : Nat), (nF 2 : Nat), (nF 3 : Nat), (nF 4 : Nat), Aj, j, cj, Lj, C, nc, cc, cf, S, ns, cs6, sn⟩) := by
                    rw [hW16]
                    exact (Bx.set7 D32.out.bg _ _ _ _ _ _ _).drew
                  have hk : ∀ b, b ≠ w.heap.size → W16.heap[b]? = W32.heap[b]? := fun b hb => by
                    rw [hW16]
                    exact keep7d hb _ _ _ _ _ _ _
                  have a16 := D32.out.at.keep (W' := W16) fun b hb _ => hk b (by rcases hb with hb | hb <;> omega)
                  have b16 : Below w.heap.size w W16 := by
                    rw [hW16]
                    exact (below7 D32.out.be _ _ _ _ _ _ _).drew
                  rw [← hW16]
                  have K16 := Lib.hid (And.intro a16 b16)
                  clear hW16 a16 b16
                  obtain ⟨ty16, hg16⟩ := x16.hp
                  clear x16
                  refine bodyPost_ret (results_tmp_row_tmp rfl _ _ w.heap.size _ _ (0, 0) _ rfl hg16 Tryz.underlying50 rfl (by kernel_rfl)) rfl ?_
                  rw [Hyes.out, DecRPost_some]
                  have hz := HZ.out
                  rw [hz.1] at hz
                  exact ⟨⟨(nF 1 : Nat), (nF 2 : Nat), (nF 3 : Nat), (nF 4 : Nat), Aj, j, cj, Lj, C, nc, cc, cf, S, ns, cs6, sn⟩, rfl, K16.out.1, hz.2.2.1, hz.2.1, K16.out.2⟩
              · have hn0d : (((nF 0 : Nat) : Int) == 0) = true := by simp; omega
                have hno : stD l = none := by rw [HST.out, if_neg (fun h => hn0 h.2.1)]
                have Hno := Lib.hid hno
                clear hno
                have bgN := (D30.out).bg
                have beN := (D30.out).be
                have q0 := bgN.c 0
                have p0 := bgN.f 0
                have q1 := bgN.c 1
                have p1 := bgN.f 1
                have q2 := bgN.c 2
                have p2 := bgN.f 2
                have q3 := bgN.c 3
                have p3 := bgN.f 3
                have q4 := bgN.c 4
                have p4 := bgN.f 4
                have q5 := bgN.c 5
                have p5 := bgN.f 5
                have q6 := bgN.c 6
                have p6 := bgN.f 6
                have HN := Lib.hid (And.intro beN (Hno.out))
                clear bgN beN
                unfold z7 at *
                go_wp2_with fail
                refine bodyPost_ret (by simp [results, Tryz.results22, go_sem, q0, q1, q2, q3, q4, q5, q6]; rfl) rfl ?_
                rw [HN.out.2, DecRPost_none]
                refine ⟨rfl, ?_⟩
                iterate 7 refine Below.setCell ?_ (by exact Nat.le_refl _) _
                exact HN.out.1
          · have hdd : (dz != 0) = true := by simp [hd0]
            have hno : stD l = none := by
              cases okb with
              | false => exact J2.out.2.1 rfl
              | true => exact (Hfin.out rfl).1 (by rw [hdz]; exact hd0)
            have Hno := Lib.hid hno
            clear hno hdz hd0
            have bgN := (D30.out).bg
            have beN := (D30.out).be
            have q0 := bgN.c 0
            have p0 := bgN.f 0
            have q1 := bgN.c 1
            have p1 := bgN.f 1
            have q2 := bgN.c 2
            have p2 := bgN.f 2
            have q3 := bgN.c 3
            have p3 := bgN.f 3
            have q4 := bgN.c 4
            have p4 := bgN.f 4
            have q5 := bgN.c 5
            have p5 := bgN.f 5
            have q6 := bgN.c 6
            have p6 := bgN.f 6
            have HN := Lib.hid (And.intro beN (Hno.out))
            clear bgN beN
            unfold z7 at *
            go_wp2_with fail
            refine bodyPost_ret (by simp [results, Tryz.results22, go_sem, q0, q1, q2, q3, q4, q5, q6]; rfl) rfl ?_
            rw [HN.out.2, DecRPost_none]
            refine ⟨rfl, ?_⟩
            iterate 7 refine Below.setCell ?_ (by exact Nat.le_refl _) _
            exact HN.out.1
end Go.Proofs.YtlecglmiigdjlaaGreatDoor
