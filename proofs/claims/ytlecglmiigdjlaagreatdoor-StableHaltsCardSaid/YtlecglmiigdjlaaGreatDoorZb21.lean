/- Slices of byte slices: cells, and what comes in.
   Walk of a tape's Open.
   A keeper in memory: its object, its two tapes, its disk.
   What becomes of a keeper by an act of a tape's, by a store. (Printed by mkkp2.py.)
   Walk: what counts: (*stable.Keeper).choose. (Printed by mkchoose.py.) -/
import Derived.Test.YtlecglmiigdjlaaGreatDoorZb1
import Derived.Test.YtlecglmiigdjlaaGreatDoorZb19
import Derived.Test.YtlecglmiigdjlaaGreatDoorZb20
import Derived.Test.YtlecglmiigdjlaaGreatDoorZb13
import Derived.Test.YtlecglmiigdjlaaGreatDoorZb14
import Derived.Test.YtlecglmiigdjlaaGreatDoorZb16
import Derived.Test.YtlecglmiigdjlaaGreatDoorZb17
namespace Go.Proofs.YtlecglmiigdjlaaGreatDoor
open Go.ChangeShapes Go.WideShapes Go.ChangeAt Go.RowKit Go.Joins Go.Deep
set_option linter.unusedVariables false
set_option linter.unusedSimpArgs false
/-- Bytes that lie elsewhere. -/
structure Br where
  A : Option Addr
  n : Nat
  m : Nat
  d : List UInt8
def brcell (x : Br) : List Value := [.slice x.A x.n x.m]
theorem brcell_len (x : Br) : (brcell x).length = 1 := rfl
theorem br_cells {w : World} {ok : Nat → Prop} {n : Nat} {A : Option Addr} {l : List Br} (h : Rd w ok 1 A n (flat brcell l)) {j : Nat} (hj : j < n) : ∃ b o x, A = some ⟨b, o, none⟩ ∧ ok b ∧ b < w.heap.size ∧ l[j]? = some x ∧ w.cell? ⟨b, o + j, none⟩ = some (.slice x.A x.n x.m) := by
  obtain ⟨b, o, x, hA, hb, hlt, hx, hc⟩ := h.fat brcell_len (by omega) hj
  have := hc 0 _ rfl
  rw [Nat.mul_one, Nat.add_zero] at this
  exact ⟨b, o, x, hA, hb, hlt, hx, this⟩
def BDat (w : World) (l : List Br) : Prop := ∀ x ∈ l, Rd w T 1 x.A x.n (bs x.d) ∧ x.n ≤ x.m ∧ x.m ≤ maxLen
theorem in_brows {H : Type} {enc : TypeId × Value → H} {P : Program} {w : World} {base : Nat} {spare : Nat → Bool} {held : Bool} {fuel : Nat} {v : Value} {x : DataW H × List MemPlace} {t e e3 : TypeId}
    (ht : P.underlying t = some (.slice e)) (he : P.underlying e = some (.slice e3)) (hC : P.cellsOf e = 1) (h4 : P.underlying e3 = some (.int .u8)) (h5 : P.cellsOf e3 = 1)
    (h : DataW.trod enc P w base spare held fuel t [v] = some x) :
    ∃ A n c, ∃ L : List Br, v = .slice A n c ∧ Rd w T 1 A n (flat brcell L) ∧ L.length = n ∧ n ≤ c ∧ c ≤ maxLen ∧ BDat w L := by
  rcases open_slice ht h with ⟨hcs, _⟩ | ⟨a, len, cap, m, n', D, Pl, hcs, _, hl, hm, hmm, hx, hi⟩
  · refine ⟨none, 0, 0, [], by simpa using hcs, Rd.none_, rfl, Nat.le_refl _, by simp [maxLen], fun y hy => by cases hy⟩
  · have key : ∀ i, i < len → ∃ y : Br, (Rd w T 1 y.A y.n (bs y.d) ∧ y.n ≤ y.m ∧ y.m ≤ maxLen) ∧ w.cell? (a.add i) = some (.slice y.A y.n y.m) := by
      intro i hil
      obtain ⟨cs', hc, ht'⟩ := hi i (by rw [hmm]; split <;> omega)
      rw [hC, Nat.mul_one] at hc
      obtain ⟨_, hcl, hat⟩ := World.cells?_some hc
      obtain ⟨u, rfl⟩ : ∃ u, cs' = [u] := by
        match cs', hcl with
        | [u], _ => exact ⟨u, rfl⟩
      have h0 := hat 0 (by omega)
      have e0 : (a.add i).add 0 = a.add i := rfl
      rw [e0] at h0
      obtain ⟨B, k, c, l, rfl, hr, h1, h2, _⟩ := in_bytes he h4 h5 ht'
      exact ⟨⟨B, k, c, l⟩, ⟨hr, h1, h2⟩, h0⟩
    by_cases hlen : len = 0
    · subst hlen
      exact ⟨some a, 0, cap, [], by simpa using hcs, ⟨by simp [flat], fun h => by omega⟩, rfl, by omega, hm, fun y hy => by cases hy⟩
    · have hspot : a.spot = none := by
        obtain ⟨y0, _, hc⟩ := key 0 (by omega)
        obtain ⟨b, o, sp⟩ := a
        exact World.cell?_spot hc
      obtain ⟨b, o, sp⟩ := a
      dsimp only at hspot
      subst hspot
      have hadd : ∀ k, (⟨b, o, none⟩ : Addr).add k = ⟨b, o + k, none⟩ := fun k => by unfold Addr.add; split <;> simp_all
      obtain ⟨L, k1, k2, k3⟩ := rd_of_rows (A := some ⟨b, o, none⟩) (n := len) (w := w) brcell_len (by omega) (fun y => Rd w T 1 y.A y.n (bs y.d) ∧ y.n ≤ y.m ∧ y.m ≤ maxLen) (by
        intro i hi
        obtain ⟨y, hy, hc⟩ := key i hi
        refine ⟨y, hy, b, o, rfl, fun j u hj => ?_⟩
        rw [hadd] at hc
        match j, hj with
        | 0, hj =>
          obtain rfl := Option.some.inj hj
          rw [Nat.mul_one]
          exact hc)
      exact ⟨some ⟨b, o, none⟩, len, cap, L, by simpa using hcs, k1, k2, hl, hm, k3⟩
end Go.Proofs.YtlecglmiigdjlaaGreatDoor
namespace Go.Proofs.YtlecglmiigdjlaaGreatDoor
open Go.RowKit
set_option maxRecDepth 100000
set_option linter.unusedVariables false
set_option linter.unusedSimpArgs false
theorem bb_elem : Elem Tryz.prog 33 (.slice none 0 0) 1 24 := by unfold Elem; kernel_rfl
/-- Rows of bytes in memory, all within ok. -/
def BR (W : World) (ok : Nat → Prop) (A : Option Addr) (n : Nat) (rows : List Br) : Prop := Rd W ok 1 A n (flat brcell rows) ∧ ∀ x ∈ rows, Rd W ok 1 x.A x.n (bs x.d) ∧ x.n ≤ x.m ∧ x.m ≤ maxLen
theorem brcell_one (l : List Br) : ∀ u ∈ flat brcell l, u.oneCell' = true := by
  induction l with
  | nil => intro u hu; cases hu
  | cons x l ih =>
    intro u hu
    rw [flat_cons, List.mem_append] at hu
    rcases hu with hu | hu
    · simp only [brcell, List.mem_cons, List.not_mem_nil, or_false] at hu
      subst hu
      rfl
    · exact ih u hu
def BadArea (z : Nat) (a n : Int) : Prop := a < 0 ∨ n < 5 ∨ (z : Int) < a ∨ (z : Int) - a < n
def OpenPost (W : World) (L : Nat → Prop) (g : Nat) (D : Dk) (z : Nat) (a n : Int) (e : Ending) (w' : World) : Prop := Below W.heap.size W w' ∧
  ((BadArea z a n ∧ e = .returned (.tuple #[.pointer none, .slice none 0 0, .iface 69 (.int .i64 1)])) ∨
  (¬ BadArea z a n ∧ D.off = true ∧ e = .returned (.tuple #[.pointer none, .slice none 0 0, .iface 69 (.int .i64 13)])) ∨
  (¬ BadArea z a n ∧ D.off = false ∧ (recs D.now a.toNat (a.toNat + n.toNat)).2.2 = true ∧ e = .returned (.tuple #[.pointer none, .slice none 0 0, .iface 69 (.int .i64 14)])) ∨
  (¬ BadArea z a n ∧ D.off = false ∧ (recs D.now a.toNat (a.toNat + n.toNat)).2.2 = false ∧ ∃ tg A m c rows, e = .returned (.tuple #[.pointer (some ⟨tg, 0, none⟩), .slice A m c, .nilIface]) ∧ W.heap.size ≤ tg ∧
    TDX w' L tg g ⟨a.toNat + n.toNat, a.toNat, (recs D.now a.toNat (a.toNat + n.toNat)).2.1, (recs D.now a.toNat (a.toNat + n.toNat)).1.length, 0⟩ D z ∧ BR w' (fun b => W.heap.size ≤ b ∧ b ≠ tg) A m rows ∧ rows.map Br.d = (recs D.now a.toNat (a.toNat + n.toNat)).1 ∧ m ≤ c ∧ c ≤ maxLen))
section
variable {W W' W2 : World} {L L' : Nat → Prop} {tg g : Nat} {t t' : Tp} {D D' : Dk} {z : Nat}
theorem open_bad (a n : Int) (w : World) (h : DX w L g D z) (ha : I64 a) (hn : I64 n) (hb : BadArea z a n) :
    Calls Tryz.prog 20 #[.pointer (some ⟨g, 0, none⟩), .agg #[.int .i64 a, .int .i64 n]] w (OpenPost w L g D z a n) := by
  have hz := h.z2
  have hsz := size_any (w.alloc (.cells #[.int .i64 a, .int .i64 n] 61)) (h.below ((Below.refl _ _).alloc (Nat.le_refl _) _))
  have Hb := Lib.hid hb
  unfold BadArea at hb
  unfold I64 at ha hn
  have hbe : Below w.heap.size w (w.alloc (.cells #[.int .i64 a, .int .i64 n] 61)) := (Below.refl _ _).alloc (Nat.le_refl _) _
  have Hbe := Lib.hid hbe
  unfold OpenPost
  clear hbe h
  by_cases h1 : a < 0
  · clear hb
    go_enter Tryz.func20, Tryz.ntmps20
    go_wp2_with fail
    refine hsz.mono ?_
    rintro e w1 ⟨rfl, rfl⟩
    go_wp2_with fail
    refine bodyPost_ret (by simp [results, Tryz.results20, go_sem]; rfl) rfl ?_
    exact ⟨Hbe.out, .inl ⟨Hb.out, rfl⟩⟩
  by_cases h2 : n < 5
  · clear hb
    have h1d : decide (a < 0) = false := by simp; omega
    go_enter Tryz.func20, Tryz.ntmps20
    go_wp2_with fail
    refine hsz.mono ?_
    rintro e w1 ⟨rfl, rfl⟩
    go_wp2_with fail
    refine bodyPost_ret (by simp [results, Tryz.results20, go_sem]; rfl) rfl ?_
    exact ⟨Hbe.out, .inl ⟨Hb.out, rfl⟩⟩
  have h1d : decide (a < 0) = false := by simp; omega
  have h2d : decide (n < 5) = false := by simp; omega
  by_cases h3 : (z : Int) < a
  · clear hb
    go_enter Tryz.func20, Tryz.ntmps20
    go_wp2_with fail
    refine hsz.mono ?_
    rintro e w1 ⟨rfl, rfl⟩
    go_wp2_with fail
    refine bodyPost_ret (by simp [results, Tryz.results20, go_sem]; rfl) rfl ?_
    exact ⟨Hbe.out, .inl ⟨Hb.out, rfl⟩⟩
  · have h3d : decide ((z : Int) < a) = false := by simp; omega
    have h4 : (z : Int) - a < n := by omega
    have s1 : -9223372036854775808 ≤ (z : Int) - a := by omega
    have s2 : (z : Int) - a < 9223372036854775808 := by omega
    clear hb
    go_enter Tryz.func20, Tryz.ntmps20
    go_wp2_with fail
    refine hsz.mono ?_
    rintro e w1 ⟨rfl, rfl⟩
    go_wp2_with fail
    refine bodyPost_ret (by simp [results, Tryz.results20, go_sem]; rfl) rfl ?_
    exact ⟨Hbe.out, .inl ⟨Hb.out, rfl⟩⟩
/-- What holds ahead of each round. -/
structure OpenI (w : World) (L : Nat → Prop) (tg g : Nat) (D : Dk) (z a n p k : Nat) (A : Option Addr) (c : Nat) (rows : List Br) (wr : World) : Prop where
  td : TDX wr L tg g ⟨a + n, a, p, k, 0⟩ D z
  own : wr.ownsRow (tg + 1) 33 1 (.slice A k c) k (flat brcell rows)
  dat : ∀ x ∈ rows, Rd wr (fun b => tg + 1 ≤ b ∧ A.map (·.block) ≠ some b) 1 x.A x.n (bs x.d) ∧ x.n ≤ x.m ∧ x.m ≤ maxLen
  len : rows.length = k
  rec_ : recs D.now a (a + n) = (rows.map Br.d ++ (recs D.now p (a + n)).1, (recs D.now p (a + n)).2)
  be : Below w.heap.size w wr
  tw : w.heap.size ≤ tg
theorem OpenI.below {w wr wr' : World} {a n p k : Nat} {A : Option Addr} {c : Nat} {rows : List Br} (h : OpenI w L tg g D z a n p k A c rows wr) (hb : Below wr.heap.size wr wr') : OpenI w L tg g D z a n p k A c rows wr' :=
  ⟨h.td.below hb, own_below h.own hb, fun x hx => ⟨(h.dat x hx).1.below hb, (h.dat x hx).2⟩, h.len, h.rec_, h.be.trans (hb.mono h.be.size), h.tw⟩
theorem OpenI.br {w wr : World} {a n p k : Nat} {A : Option Addr} {c : Nat} {rows : List Br} (h : OpenI w L tg g D z a n p k A c rows wr) : BR wr (fun b => w.heap.size ≤ b ∧ b ≠ tg) A k rows := by
  have := h.tw
  exact ⟨(Rd.of_own h.own).mono fun b hb => ⟨by omega, by omega⟩, fun x hx => ⟨(h.dat x hx).1.mono fun b hb => ⟨by omega, by omega⟩, (h.dat x hx).2⟩⟩
/-- Behind the last record. -/
theorem OpenI.fin {w wr : World} {a n p k : Nat} {A : Option Addr} {c : Nat} {rows : List Br} (h : OpenI w L tg g D z a n p k A c rows wr) (hb : ¬ BadArea z a n) (ho : D.off = false) (hr : recs D.now p (a + n) = ([], p, false)) : OpenPost w L g D z a n (.returned (.tuple #[.pointer (some ⟨tg, 0, none⟩), .slice A k c, .nilIface])) wr := by
  have e1 : recs D.now a (a + n) = (rows.map Br.d, p, false) := by rw [h.rec_, hr, List.append_nil]
  refine ⟨h.be, .inr (.inr (.inr ⟨hb, ho, ?_, tg, A, k, c, rows, rfl, h.tw, ?_, h.br, ?_, ?_⟩))⟩
  · rw [Int.toNat_natCast, Int.toNat_natCast, e1]
  · rw [Int.toNat_natCast, Int.toNat_natCast, e1, List.length_map, h.len]
    exact h.td
  · rw [Int.toNat_natCast, Int.toNat_natCast, e1]
  · obtain ⟨A', c', e2, e3, e4⟩ := own_form h.own
    injection e2 with _ _ e2
    subst e2
    exact ⟨e3, e4⟩
theorem OpenI.halt {w wr : World} {a n p k : Nat} {A : Option Addr} {c : Nat} {rows : List Br} (h : OpenI w L tg g D z a n p k A c rows wr) (hb : ¬ BadArea z a n) (ho : D.off = false) (hr : recs D.now p (a + n) = ([], p, true)) : OpenPost w L g D z a n (.returned (.tuple #[.pointer none, .slice none 0 0, .iface 69 (.int .i64 14)])) wr := by
  refine ⟨h.be, .inr (.inr (.inl ⟨hb, ho, ?_, rfl⟩))⟩
  rw [Int.toNat_natCast, Int.toNat_natCast, h.rec_, hr]
/-- One record more. -/
theorem OpenI.more {w wr w2 w3 : World} {a n p k N cc : Nat} {A A2 A3 : Option Addr} {c c2 c3 : Nat} {rows : List Br} (h : OpenI w L tg g D z a n p k A c rows wr) (hL : ∀ b, L b → b < w.heap.size) (hN : N = lnAt D.now p) (hm : mkAt D.now p = 1) (hle : p + 5 + N ≤ a + n)
    (htd : TDX w2 L tg g ⟨a + n, a, p + 5 + N, k + 1, 0⟩ D z) (hk : Kept (fun b => b = tg) wr w2) (hr : Rd w2 (wr.heap.size ≤ ·) 1 A2 N (bs (cutAt D.now (p + 5) N))) (hc2 : N ≤ c2 ∧ c2 ≤ maxLen) {t0 : TypeId}
    (hown : w3.ownsRow (tg + 1) 33 1 (.slice A3 (k + 1) c3) (k + 1) (flat brcell rows ++ [.slice A2 N c2])) (hg : (w2.alloc (.cells #[.slice A2 N c2] t0)).grownBy w3 (A.map (·.block))) (hat : A3.map (·.block) = A.map (·.block) ∨ A3.map (·.block) = some (w2.alloc (.cells #[.slice A2 N c2] t0)).heap.size) :
    OpenI w L tg g D z a n (p + 5 + N) (k + 1) A3 c3 (rows ++ [⟨A2, N, c2, cutAt D.now (p + 5) N⟩]) w3 := by
  have hrec := recs_one (l := D.now) (p := p) (e := a + n) (by rw [← hN]; exact hle) hm
  rw [← hN] at hrec
  have hs1 := hk.size
  have hs : (w2.alloc (.cells #[.slice A2 N c2] t0)).heap.size = w2.heap.size + 1 := by simp
  have hol := own_lt h.own
  have htw := h.tw
  have htl := h.td.lt
  have hws := h.be.size
  have hAg : ∀ b, A.map (·.block) = some b → tg + 1 ≤ b ∧ b < wr.heap.size := fun b hb => hol b hb
  have hkk : ∀ b, b < w2.heap.size → A.map (·.block) ≠ some b → w3.heap[b]? = w2.heap[b]? := fun b hb hne => (hg.block b (by omega) (fun e => hne e.symm)).trans (Below.heap_alloc w2 _ b hb)
  have hdlt := htd.dx.lt
  refine ⟨htd.keep (fun b hb => hkk b ?_ ?_) (Nat.le_trans (by omega) hg.size), ?_, ?_, ?_, ?_, ?_, htw⟩
  · rcases hb with hb | rfl
    · exact hdlt b hb
    · exact htd.lt
  · intro e
    have h1 := hAg b e
    rcases hb with hb | rfl
    · have := hL b hb
      omega
    · omega
  · rw [flat_append, flat_one]
    exact hown
  · intro x hx
    have hne : ∀ b, b < w2.heap.size → A.map (·.block) ≠ some b → A3.map (·.block) ≠ some b := by
      intro b hb h1 h2
      rcases hat with e | e
      · exact h1 (e ▸ h2)
      · rw [h2] at e
        injection e with e
        omega
    rcases List.mem_append.1 hx with hx | hx
    · have hd := h.dat x hx
      refine ⟨((hd.1.lt (by omega)).keep fun b hb _ => ?_).mono fun b hb => ⟨hb.1.1, hne b (by omega) hb.1.2⟩, hd.2⟩
      rw [hkk b (by omega) hb.1.2, hk.block b hb.2 (by omega)]
    · obtain rfl := List.mem_singleton.1 hx
      refine ⟨((hr.lt (by omega)).keep fun b hb _ => hkk b hb.2 fun e => ?_).mono fun b hb => ⟨by omega, hne b hb.2 fun e => ?_⟩, hc2⟩
      · have := hAg b e
        omega
      · have := hAg b e
        omega
  · rw [List.length_append, h.len]
    rfl
  · rw [h.rec_, hrec]
    simp only [List.map_append, List.append_assoc, List.map_cons, List.map_nil, List.cons_append, List.nil_append]
  · refine (h.be.trans ⟨hk.os, hk.tape, hk.output, hk.size, fun i hi => hk.block i (by omega) (by omega)⟩).trans ⟨?_, ?_, ?_, ?_, ?_⟩
    · exact hg.os
    · exact hg.tape
    · exact hg.output
    · exact Nat.le_trans (by omega) hg.size
    · intro i hi
      exact hkk i (by omega) fun e => by have := hAg i e; omega
theorem OpenI.start {w W1 : World} {a n : Nat} (h : DX w L g D z) (h1 : 5 ≤ n) (h2 : a + n ≤ z) (hb : Below w.heap.size w W1) (hs : W1.heap.size = w.heap.size + 1) : OpenI w L (w.heap.size + 1) g D z a n a 0 none 0 [] (W1.alloc (.cells #[.pointer (some ⟨g, 0, none⟩), .int .i64 ((a + n : Nat) : Int), .int .i64 (a : Nat), .int .i64 (a : Nat), .int .i64 0, .nilIface] 103)) := by
  have hlt := h.lt
  have hb' : Below w.heap.size w (W1.alloc (.cells #[.pointer (some ⟨g, 0, none⟩), .int .i64 ((a + n : Nat) : Int), .int .i64 (a : Nat), .int .i64 (a : Nat), .int .i64 0, .nilIface] 103)) := hb.alloc (by omega) _
  exact ⟨⟨h.below hb', Bx.new _ _ _ hs.symm, fun hl => by have := hlt _ hl; omega, ⟨Nat.le_refl _, by dsimp only; omega, by dsimp only; omega, by dsimp only; omega⟩⟩, own_nil _ _ _ _ _ rfl, fun x hx => (List.not_mem_nil hx).elim, rfl, rfl, hb', by omega⟩
set_option maxHeartbeats 3200000 in
theorem open_good (a n : Nat) (w : World) (h : DX w L g D z) (h1 : 5 ≤ n) (h2 : a + n ≤ z) :
    Calls Tryz.prog 20 #[.pointer (some ⟨g, 0, none⟩), .agg #[.int .i64 a, .int .i64 n]] w (OpenPost w L g D z a n) := by
  have hz := h.z2
  have hsz := size_any (w.alloc (.cells #[.int .i64 a, .int .i64 n] 61)) (h.below ((Below.refl _ _).alloc (Nat.le_refl _) _))
  have hbe : Below w.heap.size w (w.alloc (.cells #[.int .i64 a, .int .i64 n] 61)) := (Below.refl _ _).alloc (Nat.le_refl _) _
  have hst := OpenI.start h h1 h2 hbe (by simp)
  have hng : ¬ BadArea z a n := by unfold BadArea; omega
  have Hng := Lib.hid hng
  have HL := Lib.hid h.lt
  have g1 : decide ((a : Int) < 0) = false := by simp
  have g2 : decide ((n : Int) < 5) = false := by simp; omega
  have g3 : decide (z < a) = false := by simp; omega
  have g4 : decide ((z : Int) - (a : Int) < (n : Int)) = false := by simp; omega
  have s1 : -9223372036854775808 ≤ (z : Int) - (a : Int) := by omega
  have s2 : (z : Int) - (a : Int) < 9223372036854775808 := by omega
  have hsum : a + n ≤ 4194304 := by omega
  have hc : ((a + n : Nat) : Int) = (a : Int) + (n : Int) := by omega
  rw [hc] at hst
  have Hst := Lib.hid hst
  clear h hbe hst hng hc
  go_enter Tryz.func20, Tryz.ntmps20
  go_wp2_with fail
  refine hsz.mono ?_
  rintro e w1 ⟨rfl, rfl⟩
  go_wp2_with fail
  go_loopg [9] n (fun m s9 wr => ∃ p k A c rows, m = a + n - p ∧ s9 = .slice A k c ∧ p ≤ a + n ∧ (p = a ∨ D.off = false) ∧ OpenI w L (w.heap.size + 1) g D z a n p k A c rows wr)
  case atStart => exact ⟨a, 0, none, 0, [], by omega, rfl, by omega, .inl rfl, Hst.out⟩
  case round =>
    obtain ⟨p, k, A, c, rows, hm, rfl, hpe, hpo, hi⟩ := hrel
    have hpl := fun j => place_any _ (hi.td.drewN j)
    have hpl0 := place_any _ hi.td
    have Hi := Lib.hid hi
    have Hm := Lib.hid hm
    clear hi hm
    by_cases hp5 : p + 5 ≤ a + n
    · have e1 : decide (p + 5 ≤ a + n) = true := by simp [hp5]
      dsimp only at hpl0
      rw [e1] at hpl0
      clear hpl
      go_wp2_with fail
      refine hpl0.mono ?_
      rintro e w2 ⟨rfl, j, rfl⟩
      have hnx := next_any _ (Hi.out.td.drewN j) (by dsimp only; exact hp5)
      have Hnx := Lib.hid hnx
      clear hnx hpl0 e1
      go_wp2_with fail
      refine Hnx.out.mono ?_
      rintro e w3 (⟨ho, rfl, hb3⟩ | ⟨ho, hmk, rfl, hb3⟩ | ⟨ho, hm0, hm1, rfl, hb3⟩ | ⟨ho, hmk, hle, A2, c2, rfl, hr2, hc2, hc3, htd, hkp⟩)
      · have hi3 := Hi.out.below (below_un hb3)
        have hfin : OpenPost w L g D z a n (.returned (.tuple #[.pointer none, .slice none 0 0, .iface 69 (.int .i64 13)])) w3 := ⟨hi3.be, .inr (.inl ⟨Hng.out, ho, rfl⟩)⟩
        have Hfin := Lib.hid hfin
        clear hi3 hfin hb3 Hnx
        go_wp2_with fail
        refine bodyPost_ret (by simp [results, Tryz.results20, go_sem]; rfl) rfl ?_
        exact Hfin.out
      · have hfin := (Hi.out.below (below_un hb3)).fin Hng.out ho (recs_end hmk)
        have Hfin := Lib.hid hfin
        clear hfin hb3 Hnx hmk
        go_wp2_with fail
        refine bodyPost_ret (by simp [results, Tryz.results20, go_sem]; rfl) rfl ?_
        exact Hfin.out
      · have hfin := (Hi.out.below (below_un hb3)).halt Hng.out ho (recs_halt hp5 hm0 hm1)
        have Hfin := Lib.hid hfin
        clear hfin hb3 Hnx hm0 hm1
        go_wp2_with fail
        refine bodyPost_ret (by simp [results, Tryz.results20, go_sem]; rfl) rfl ?_
        exact Hfin.out
      · dsimp only at hr2 hc2 htd hle hmk
        obtain ⟨N, hN⟩ : ∃ N, N = lnAt D.now p := ⟨_, rfl⟩
        dsimp only
        rw [← hN] at hr2 hc2 htd hle ⊢
        have hkp' : Kept (fun b => b = w.heap.size + 1) wr w3 := ⟨hkp.os, hkp.tape, hkp.output, hkp.size, hkp.block⟩
        have hr2' : Rd w3 (wr.heap.size ≤ ·) 1 A2 N (bs (cutAt D.now (p + 5) N)) := hr2
        have hmore := fun A3 c3 w4 => Hi.out.more (w3 := w4) (A3 := A3) (c3 := c3) (t0 := 33) (cc := 0) HL.out hN hmk hle htd hkp' hr2' ⟨hc2, hc3⟩
        have hol := own_lt Hi.out.own
        have hown3 : w3.ownsRow (w.heap.size + 1 + 1) 33 1 (.slice A k c) k (flat brcell rows) := own_kb Hi.out.own fun b hb => hkp'.block b (hol b hb).2 (by have := (hol b hb).1; omega)
        have hown4 := own_below hown3 ((Below.refl _ _).alloc (Nat.le_refl _) (.cells #[.slice A2 N c2] 33))
        have hlit : Rd (w3.alloc (.cells #[.slice A2 N c2] 33)) (w3.heap.size ≤ ·) 1 (some ⟨w3.heap.size, 0, none⟩) 1 [.slice A2 N c2] := Rd.lit (w := w3) (cs := #[.slice A2 N c2]) (t := 33) (fr := (0, 0)) rfl
        have hk5 : k ≤ 4194304 := by
          have := Hi.out.td.ok.n5
          have := Hi.out.td.ok.pe
          have := Hi.out.td.ok.ez
          dsimp only at *
          omega
        have hwz : w.heap.size + 1 + 1 ≤ w3.heap.size + 1 := by
          have h1 := htd.lt
          omega
        have Hmore := Lib.hid hmore
        have Hle := Lib.hid hle
        clear hmore hown3 hol htd hkp hkp' hr2 hr2' hN hmk hc2 hc3 Hnx hle
        go_wp2_with (at_builtin; go_must (refine wpList_append_any _ Tryz.underlying56 bb_elem rfl (by omega) rfl rfl rfl hown4 rfl hlit (by intro u hu; obtain rfl := List.mem_singleton.1 hu; rfl) (by omega) (by simp; omega) rfl rfl ?_); intro A3 c3 w4 hown5 hg5 hat5)
        go_roundg (a + n - (p + 5 + N))
        case measure => have := Hm.out; have := Hle.out; omega
        case rel =>
          exact ⟨p + 5 + N, k + 1, A3, c3, _, rfl, rfl, Hle.out, .inr ho, Hmore.out A3 c3 w4 hown5 hg5 hat5⟩
    · have e1 : decide (p + 5 ≤ a + n) = false := by simp [hp5]
      dsimp only at hpl0
      rw [e1] at hpl0
      clear hpl
      go_wp2_with fail
      refine hpl0.mono ?_
      rintro e w2 ⟨rfl, j, rfl⟩
      have hi3 := Hi.out.below (wr' := wr.drewN j) ⟨rfl, rfl, rfl, Nat.le_refl _, fun _ _ => rfl⟩
      have hfin := hi3.fin Hng.out (by rcases hpo with h | h; omega; exact h) (recs_no hp5)
      have Hfin := Lib.hid hfin
      clear hi3 hfin hpl0 e1 hpo
      go_wp2_with fail
      refine bodyPost_ret (by simp [results, Tryz.results20, go_sem]; rfl) rfl ?_
      exact Hfin.out
theorem open_any (a n : Int) (w : World) (h : DX w L g D z) (ha : I64 a) (hn : I64 n) :
    Calls Tryz.prog 20 #[.pointer (some ⟨g, 0, none⟩), .agg #[.int .i64 a, .int .i64 n]] w (OpenPost w L g D z a n) := by
  by_cases hb : BadArea z a n
  · exact open_bad a n w h ha hn hb
  · unfold BadArea at hb
    obtain ⟨a', rfl⟩ := Int.eq_ofNat_of_zero_le (show 0 ≤ a by omega)
    obtain ⟨n', rfl⟩ := Int.eq_ofNat_of_zero_le (show 0 ≤ n by omega)
    exact open_good a' n' w h (by omega) (by omega)
end
end Go.Proofs.YtlecglmiigdjlaaGreatDoor
namespace Go.Proofs.YtlecglmiigdjlaaGreatDoor
open Go.RowKit
set_option maxRecDepth 100000
set_option linter.unusedVariables false
set_option linter.unusedSimpArgs false
variable {fb : Nat}
/-- A keeper. -/
structure Kp where
  t0 : Tp
  t1 : Tp
  w0 : Int
  w1 : Int
  on : Bool
  n : Nat
  now : St
  dead : Int
def onI (b : Bool) : Int := if b then 1 else 0
def Kp.cells (t0 t1 : Nat) (K : Kp) (z : Sv) : Array Value :=
  #[.pointer (some ⟨t0, 0, none⟩), .pointer (some ⟨t1, 0, none⟩), .int .i64 K.w0, .int .i64 K.w1, .int .i64 (onI K.on), .int .i64 (K.n : Nat), .int .i64 z.tm, .int .i64 z.vt, .int .i64 z.b, .int .i64 z.t, .slice z.A z.n z.c, .slice z.C z.nc z.cc, .slice z.S z.ns z.cs, errD K.dead]
structure KX (fb : Nat) (W : World) (L : Nat → Prop) (k g t0 t1 : Nat) (K : Kp) (z : Sv) (D : Dk) (sz : Nat) : Prop where
  dx : DX W L g D sz
  b0 : Bx W t0 (tcells g K.t0)
  b1 : Bx W t1 (tcells g K.t1)
  o0 : K.t0.Ok sz
  o1 : K.t1.Ok sz
  kb : Bx W k (Kp.cells t0 t1 K z)
  at_ : z.At W (fun b => ¬ L b ∧ b ≠ t0 ∧ b ≠ t1 ∧ b ≠ k ∧ b ≠ fb)
  st : z.st = K.now
  fit : z.Fit
  n0 : ¬ L t0
  n1 : ¬ L t1
  nk : ¬ L k
  d01 : t0 ≠ t1
  k0 : k ≠ t0
  k1 : k ≠ t1
  flt : fb < W.heap.size
section
variable {W W' : World} {L : Nat → Prop} {k g t0 t1 : Nat} {K : Kp} {z : Sv} {D : Dk} {sz : Nat}
theorem KX.keep (h : KX fb W L k g t0 t1 K z D sz) (hk : ∀ b, b < W.heap.size → W'.heap[b]? = W.heap[b]?) (hz : W.heap.size ≤ W'.heap.size) : KX fb W' L k g t0 t1 K z D sz :=
  ⟨h.dx.keep (fun b hb => hk b (h.dx.lt b hb)) hz, h.b0.keep (hk _ h.b0.lt), h.b1.keep (hk _ h.b1.lt), h.o0, h.o1, h.kb.keep (hk _ h.kb.lt), h.at_.keep (fun b _ hl => hk b hl), h.st, h.fit, h.n0, h.n1, h.nk, h.d01, h.k0, h.k1, Nat.lt_of_lt_of_le h.flt hz⟩
theorem KX.below (h : KX fb W L k g t0 t1 K z D sz) (hb : Below W.heap.size W W') : KX fb W' L k g t0 t1 K z D sz := h.keep (fun b hl => hb.block b hl) hb.size
theorem KX.drew (h : KX fb W L k g t0 t1 K z D sz) : KX fb W.drew L k g t0 t1 K z D sz := h.keep (fun _ _ => rfl) (Nat.le_refl _)
theorem KX.c (h : KX fb W L k g t0 t1 K z D sz) : W.cell? ⟨k, 0, none⟩ = some (.pointer (some ⟨t0, 0, none⟩)) ∧ W.cell? ⟨k, 1, none⟩ = some (.pointer (some ⟨t1, 0, none⟩)) ∧ W.cell? ⟨k, 2, none⟩ = some (.int .i64 K.w0) ∧ W.cell? ⟨k, 3, none⟩ = some (.int .i64 K.w1) ∧ W.cell? ⟨k, 4, none⟩ = some (.int .i64 (onI K.on)) ∧ W.cell? ⟨k, 5, none⟩ = some (.int .i64 (K.n : Nat)) ∧ W.cell? ⟨k, 13, none⟩ = some (errD K.dead) :=
  ⟨h.kb.c 0, h.kb.c 1, h.kb.c 2, h.kb.c 3, h.kb.c 4, h.kb.c 5, h.kb.c 13⟩
theorem KX.cs (h : KX fb W L k g t0 t1 K z D sz) : W.cell? ⟨k, 6, none⟩ = some (.int .i64 z.tm) ∧ W.cell? ⟨k, 7, none⟩ = some (.int .i64 z.vt) ∧ W.cell? ⟨k, 8, none⟩ = some (.int .i64 z.b) ∧ W.cell? ⟨k, 9, none⟩ = some (.int .i64 z.t) ∧ W.cell? ⟨k, 10, none⟩ = some (.slice z.A z.n z.c) ∧ W.cell? ⟨k, 11, none⟩ = some (.slice z.C z.nc z.cc) ∧ W.cell? ⟨k, 12, none⟩ = some (.slice z.S z.ns z.cs) :=
  ⟨h.kb.c 6, h.kb.c 7, h.kb.c 8, h.kb.c 9, h.kb.c 10, h.kb.c 11, h.kb.c 12⟩
theorem KX.tx0 (h : KX fb W L k g t0 t1 K z D sz) : TDX W L t0 g K.t0 D sz := ⟨h.dx, h.b0, h.n0, h.o0⟩
theorem KX.tx1 (h : KX fb W L k g t0 t1 K z D sz) : TDX W L t1 g K.t1 D sz := ⟨h.dx, h.b1, h.n1, h.o1⟩
end
def K0 : Kp := ⟨⟨0, 0, 0, 0, 0⟩, ⟨0, 0, 0, 0, 0⟩, 0, 0, false, 0, ⟨0, 0, 0, 0, [], [], []⟩, 0⟩
/-- The number of saves, of a keeper. -/
theorem saves_any {L : Nat → Prop} {k g t0 t1 : Nat} {K : Kp} {z : Sv} {D : Dk} {sz : Nat} (w : World) (h : KX fb w L k g t0 t1 K z D sz) :
    Calls Tryz.prog 8 #[.pointer (some ⟨k, 0, none⟩)] w (fun e w' => e = .returned (.int .i64 (K.n : Nat)) ∧ w' = w) := by
  obtain ⟨c0, c1, c2, c3, c4, c5, c13⟩ := h.c
  clear h
  go_enter Tryz.func8, Tryz.ntmps8
  go_wp2_with fail
  go_ret
  exact ⟨rfl, rfl⟩
theorem saves_nil (w : World) : Calls Tryz.prog 8 #[.pointer none] w (fun e w' => e = .returned (.int .i64 0) ∧ w' = w) := by
  go_enter Tryz.func8, Tryz.ntmps8
  go_wp2_with fail
  go_ret
  exact ⟨rfl, rfl⟩
end Go.Proofs.YtlecglmiigdjlaaGreatDoor
namespace Go.Proofs.YtlecglmiigdjlaaGreatDoor
open Go.RowKit
set_option maxRecDepth 100000
set_option linter.unusedVariables false
set_option linter.unusedSimpArgs false
variable {fb : Nat}
section
variable {W W' : World} {L : Nat → Prop} {k g t0 t1 : Nat} {K : Kp} {z : Sv} {D D' : Dk} {sz : Nat} {t' : Tp}
theorem KX.step0 (h : KX fb W L k g t0 t1 K z D sz) (ha : AftT W L t0 g t' D' sz W') : ∃ L', KX fb W' L' k g t0 t1 { K with t0 := t' } z D' sz ∧ (∀ b, L' b → L b ∨ W.heap.size ≤ b) ∧ Kept (fun b => L b ∨ b = t0) W W' := by
  obtain ⟨L', h1, h2, h3⟩ := ha
  have hn : ∀ b, b < W.heap.size → ¬ L b → ¬ L' b := fun b hb hl hl' => (h2 b hl').elim hl fun h4 => by omega
  refine ⟨L', ⟨h1.dx, h1.bx, h3.bx h.b1 (fun hu => hu.elim h.n1 fun e => h.d01 e.symm), h1.ok, h.o1, h3.bx h.kb (fun hu => hu.elim h.nk h.k0), ?_, h.st, h.fit, h1.nl, hn _ h.b1.lt h.n1, hn _ h.kb.lt h.nk, h.d01, h.k0, h.k1, Nat.lt_of_lt_of_le h.flt h3.size⟩, h2, h3⟩
  exact (h.at_.lt.keep fun b hb hl => h3.block b hl fun hu => hu.elim hb.1.1 hb.1.2.1).mono fun b hb => ⟨hn b hb.2 hb.1.1, hb.1.2⟩
theorem KX.step1 (h : KX fb W L k g t0 t1 K z D sz) (ha : AftT W L t1 g t' D' sz W') : ∃ L', KX fb W' L' k g t0 t1 { K with t1 := t' } z D' sz ∧ (∀ b, L' b → L b ∨ W.heap.size ≤ b) ∧ Kept (fun b => L b ∨ b = t1) W W' := by
  obtain ⟨L', h1, h2, h3⟩ := ha
  have hn : ∀ b, b < W.heap.size → ¬ L b → ¬ L' b := fun b hb hl hl' => (h2 b hl').elim hl fun h4 => by omega
  refine ⟨L', ⟨h1.dx, h3.bx h.b0 (fun hu => hu.elim h.n0 h.d01), h1.bx, h.o0, h1.ok, h3.bx h.kb (fun hu => hu.elim h.nk h.k1), ?_, h.st, h.fit, hn _ h.b0.lt h.n0, h1.nl, hn _ h.kb.lt h.nk, h.d01, h.k0, h.k1, Nat.lt_of_lt_of_le h.flt h3.size⟩, h2, h3⟩
  exact (h.at_.lt.keep fun b hb hl => h3.block b hl fun hu => hu.elim hb.1.1 hb.1.2.2.1).mono fun b hb => ⟨hn b hb.2 hb.1.1, hb.1.2⟩
theorem KX.dead_ (h : KX fb W L k g t0 t1 K z D sz) (e : Int) : KX fb (W.setCell ⟨k, 13, none⟩ (errD e)) L k g t0 t1 { K with dead := e } z D sz := by
  have hk : ∀ b, b ≠ k → (W.setCell ⟨k, 13, none⟩ (errD e)).heap[b]? = W.heap[b]? := fun b hb => Below.heap_setCell _ _ _ b hb
  refine ⟨h.dx.keep (fun b hb => hk b (fun e => h.nk (e ▸ hb))) (by simp [World.setCell]), h.b0.keep (hk _ h.k0.symm), h.b1.keep (hk _ h.k1.symm), h.o0, h.o1, h.kb.set 13 _, h.at_.keep (fun b hb _ => hk b hb.2.2.2.1), h.st, h.fit, h.n0, h.n1, h.nk, h.d01, h.k0, h.k1, by have := h.flt; simpa [World.setCell] using this⟩
theorem Bx.lay14 {a0 a1 a2 a3 a4 a5 a6 a7 a8 a9 a10 a11 a12 a13 m x0 x1 x2 x3 x4 x5 x6 o : Value} (h : Bx W k #[a0, a1, a2, a3, a4, a5, a6, a7, a8, a9, a10, a11, a12, a13]) : Bx (((((((((W.setCell ⟨k, 5, none⟩ m).setCell ⟨k, 6, none⟩ x0).setCell ⟨k, 7, none⟩ x1).setCell ⟨k, 8, none⟩ x2).setCell ⟨k, 9, none⟩ x3).setCell ⟨k, 10, none⟩ x4).setCell ⟨k, 11, none⟩ x5).setCell ⟨k, 12, none⟩ x6).setCell ⟨k, 4, none⟩ o) k #[a0, a1, a2, a3, o, m, x0, x1, x2, x3, x4, x5, x6, a13] := by
  have h1 : Bx (W.setCell ⟨k, 5, none⟩ m) k #[a0, a1, a2, a3, a4, m, a6, a7, a8, a9, a10, a11, a12, a13] := h.set 5 m
  have h2 : Bx ((W.setCell ⟨k, 5, none⟩ m).setCell ⟨k, 6, none⟩ x0) k #[a0, a1, a2, a3, a4, m, x0, a7, a8, a9, a10, a11, a12, a13] := h1.set 6 x0
  have h3 : Bx (((W.setCell ⟨k, 5, none⟩ m).setCell ⟨k, 6, none⟩ x0).setCell ⟨k, 7, none⟩ x1) k #[a0, a1, a2, a3, a4, m, x0, x1, a8, a9, a10, a11, a12, a13] := h2.set 7 x1
  have h4 : Bx ((((W.setCell ⟨k, 5, none⟩ m).setCell ⟨k, 6, none⟩ x0).setCell ⟨k, 7, none⟩ x1).setCell ⟨k, 8, none⟩ x2) k #[a0, a1, a2, a3, a4, m, x0, x1, x2, a9, a10, a11, a12, a13] := h3.set 8 x2
  have h5 : Bx (((((W.setCell ⟨k, 5, none⟩ m).setCell ⟨k, 6, none⟩ x0).setCell ⟨k, 7, none⟩ x1).setCell ⟨k, 8, none⟩ x2).setCell ⟨k, 9, none⟩ x3) k #[a0, a1, a2, a3, a4, m, x0, x1, x2, x3, a10, a11, a12, a13] := h4.set 9 x3
  have h6 : Bx ((((((W.setCell ⟨k, 5, none⟩ m).setCell ⟨k, 6, none⟩ x0).setCell ⟨k, 7, none⟩ x1).setCell ⟨k, 8, none⟩ x2).setCell ⟨k, 9, none⟩ x3).setCell ⟨k, 10, none⟩ x4) k #[a0, a1, a2, a3, a4, m, x0, x1, x2, x3, x4, a11, a12, a13] := h5.set 10 x4
  have h7 : Bx (((((((W.setCell ⟨k, 5, none⟩ m).setCell ⟨k, 6, none⟩ x0).setCell ⟨k, 7, none⟩ x1).setCell ⟨k, 8, none⟩ x2).setCell ⟨k, 9, none⟩ x3).setCell ⟨k, 10, none⟩ x4).setCell ⟨k, 11, none⟩ x5) k #[a0, a1, a2, a3, a4, m, x0, x1, x2, x3, x4, x5, a12, a13] := h6.set 11 x5
  have h8 : Bx ((((((((W.setCell ⟨k, 5, none⟩ m).setCell ⟨k, 6, none⟩ x0).setCell ⟨k, 7, none⟩ x1).setCell ⟨k, 8, none⟩ x2).setCell ⟨k, 9, none⟩ x3).setCell ⟨k, 10, none⟩ x4).setCell ⟨k, 11, none⟩ x5).setCell ⟨k, 12, none⟩ x6) k #[a0, a1, a2, a3, a4, m, x0, x1, x2, x3, x4, x5, x6, a13] := h7.set 12 x6
  have h9 : Bx (((((((((W.setCell ⟨k, 5, none⟩ m).setCell ⟨k, 6, none⟩ x0).setCell ⟨k, 7, none⟩ x1).setCell ⟨k, 8, none⟩ x2).setCell ⟨k, 9, none⟩ x3).setCell ⟨k, 10, none⟩ x4).setCell ⟨k, 11, none⟩ x5).setCell ⟨k, 12, none⟩ x6).setCell ⟨k, 4, none⟩ o) k #[a0, a1, a2, a3, o, m, x0, x1, x2, x3, x4, x5, x6, a13] := h8.set 4 o
  exact h9
theorem keep9 {b : Nat} (hb : b ≠ k) (m x0 x1 x2 x3 x4 x5 x6 o : Value) : (((((((((W.setCell ⟨k, 5, none⟩ m).setCell ⟨k, 6, none⟩ x0).setCell ⟨k, 7, none⟩ x1).setCell ⟨k, 8, none⟩ x2).setCell ⟨k, 9, none⟩ x3).setCell ⟨k, 10, none⟩ x4).setCell ⟨k, 11, none⟩ x5).setCell ⟨k, 12, none⟩ x6).setCell ⟨k, 4, none⟩ o).heap[b]? = W.heap[b]? := by
  iterate 9 refine (Below.heap_setCell _ _ _ b (by exact hb)).trans ?_
  rfl
theorem size9 (m x0 x1 x2 x3 x4 x5 x6 o : Value) : (((((((((W.setCell ⟨k, 5, none⟩ m).setCell ⟨k, 6, none⟩ x0).setCell ⟨k, 7, none⟩ x1).setCell ⟨k, 8, none⟩ x2).setCell ⟨k, 9, none⟩ x3).setCell ⟨k, 10, none⟩ x4).setCell ⟨k, 11, none⟩ x5).setCell ⟨k, 12, none⟩ x6).setCell ⟨k, 4, none⟩ o).heap.size = W.heap.size := by simp [World.setCell]
theorem KX.fin (h : KX fb W L k g t0 t1 K z D sz) (z' : Sv) (hz : z'.At W (fun b => ¬ L b ∧ b ≠ t0 ∧ b ≠ t1 ∧ b ≠ k ∧ b ≠ fb)) (hf : z'.Fit) (m : Nat) (o : Bool) :
    KX fb (((((((((W.setCell ⟨k, 5, none⟩ (.int .i64 (m : Nat))).setCell ⟨k, 6, none⟩ (.int .i64 z'.tm)).setCell ⟨k, 7, none⟩ (.int .i64 z'.vt)).setCell ⟨k, 8, none⟩ (.int .i64 z'.b)).setCell ⟨k, 9, none⟩ (.int .i64 z'.t)).setCell ⟨k, 10, none⟩ (.slice z'.A z'.n z'.c)).setCell ⟨k, 11, none⟩ (.slice z'.C z'.nc z'.cc)).setCell ⟨k, 12, none⟩ (.slice z'.S z'.ns z'.cs)).setCell ⟨k, 4, none⟩ (.int .i64 (onI o))) L k g t0 t1 { K with n := m, now := z'.st, on := o } z' D sz := by
  have hk : ∀ b, b ≠ k → (((((((((W.setCell ⟨k, 5, none⟩ (.int .i64 (m : Nat))).setCell ⟨k, 6, none⟩ (.int .i64 z'.tm)).setCell ⟨k, 7, none⟩ (.int .i64 z'.vt)).setCell ⟨k, 8, none⟩ (.int .i64 z'.b)).setCell ⟨k, 9, none⟩ (.int .i64 z'.t)).setCell ⟨k, 10, none⟩ (.slice z'.A z'.n z'.c)).setCell ⟨k, 11, none⟩ (.slice z'.C z'.nc z'.cc)).setCell ⟨k, 12, none⟩ (.slice z'.S z'.ns z'.cs)).setCell ⟨k, 4, none⟩ (.int .i64 (onI o))).heap[b]? = W.heap[b]? := fun b hb => keep9 hb _ _ _ _ _ _ _ _ _
  refine ⟨h.dx.keep (fun b hb => hk b (fun e => h.nk (e ▸ hb))) (by rw [size9]; exact Nat.le_refl _), h.b0.keep (hk _ h.k0.symm), h.b1.keep (hk _ h.k1.symm), h.o0, h.o1, h.kb.lay14, hz.keep (fun b hb _ => hk b hb.2.2.2.1), rfl, hf, h.n0, h.n1, h.nk, h.d01, h.k0, h.k1, by rw [size9]; exact h.flt⟩
end
theorem Sv.fit_of {s s' : Sv} {W W' : World} {ok ok' : Nat → Prop} (h' : s'.At W' ok') (h : s.At W ok) (hf : s.Fit) (e : s'.st = s.st) : s'.Fit := by
  obtain ⟨e1, e2, e3, e4, e5, e6, e7⟩ := st_iff.1 e
  have k1 : s'.tm = s.tm := e1
  have k2 : s'.vt = s.vt := e2
  have k3 : s'.b = s.b := e3
  have k4 : s'.t = s.t := e4
  have k5 : s'.L.map en = s.L.map en := e5
  have k6 : s'.cf = s.cf := e6
  have k7 : s'.sn = s.sn := e7
  have l1 := h'.l.flen ecell_len (by omega)
  have l2 := h.l.flen ecell_len (by omega)
  have l3 := congrArg List.length k5
  rw [List.length_map, List.length_map] at l3
  have l4 := ii_len h'.cf
  have l5 := ii_len h.cf
  have l6 := h'.sn.blen
  have l7 := h.sn.blen
  have l8 := hf.z
  refine ⟨by rw [k1, k2, k3, k4]; exact hf.i, fun y hy => ?_, by omega, by rw [k6] at l4; omega, by rw [k7] at l6; omega⟩
  have hm : en y ∈ s.L.map en := by rw [← k5]; exact List.mem_map_of_mem hy
  obtain ⟨x, hx, hxy⟩ := List.mem_map.1 hm
  obtain ⟨m1, m2, m3, m4⟩ := en_iff.1 hxy
  have m5 := (h'.d y hy).1.blen
  have m6 := (h.d x hx).1.blen
  have m7 := hf.w x hx
  rw [m4] at m6
  refine ⟨?_, by omega⟩
  have m8 := m7.1
  unfold W64 at m8 ⊢
  rw [← m1, ← m2, ← m3]
  exact m8
def LoadPost (W : World) (s : St) (e : Ending) (w' : World) : Prop := ∃ s' : Sv, e = .returned s'.val ∧ s'.At w' (W.heap.size < ·) ∧ s'.st = s ∧ s'.Fit ∧ Below W.heap.size W w'
set_option maxHeartbeats 1600000 in
/-- What is kept, of its own. -/
theorem load_any {L : Nat → Prop} {k g t0 t1 : Nat} {K : Kp} {z : Sv} {D : Dk} {sz : Nat} (w : World) (h : KX fb w L k g t0 t1 K z D sz) (hm : lmay z.b z.t (z.L.map en) = true) :
    Calls Tryz.prog 9 #[.pointer (some ⟨k, 0, none⟩)] w (LoadPost w K.now) := by
  obtain ⟨W0, hW0⟩ : ∃ W0, W0 = w.alloc (.cells z7 35) := ⟨_, rfl⟩
  have b9 : Bx W0 w.heap.size z7 := by subst hW0; exact Bx.new _ _ _ rfl
  have hbe : Below w.heap.size w W0 := by subst hW0; exact (Below.refl _ _).alloc (Nat.le_refl _) _
  have hz0 : W0.heap.size = w.heap.size + 1 := by subst hW0; simp
  have h0 := h.below hbe
  obtain ⟨c6, c7, c8, c9, c10, c11, c12⟩ := h0.cs
  have how := kown_sv z W0 h0.at_ h0.fit hm
  have HW := Lib.hid hW0
  have How := Lib.hid how
  have B := Lib.hid (And.intro b9 (And.intro hbe (And.intro hz0 h0)))
  clear hW0 b9 hbe hz0 h0 how h
  go_enter Tryz.func9, Tryz.ntmps9
  go_upto_region 1 with (fail)
  have HW' := HW.out
  unfold z7 at HW'
  rw [← HW']
  clear HW'
  go_wp2_with fail
  refine How.out.mono ?_
  rintro e w1 ⟨s', rfl, a1, e1, hb1⟩
  have y1 := B.out.1.below hb1
  have hf1 := Sv.fit_of a1 B.out.2.2.2.at_ B.out.2.2.2.fit e1
  have hb2 := B.out.2.1.trans (hb1.mono B.out.2.1.size)
  have hst : s'.st = K.now := e1.trans B.out.2.2.2.st
  obtain ⟨q0, q1, q2, q3, q4, q5, q6⟩ := y1.c7
  have p0 := y1.f 0
  have p1 := y1.f 1
  have p2 := y1.f 2
  have p3 := y1.f 3
  have p4 := y1.f 4
  have p5 := y1.f 5
  have p6 := y1.f 6
  have hz0 := B.out.2.2.1
  have K1 := Lib.hid (And.intro a1 (And.intro hf1 (And.intro hb2 (And.intro hst (And.intro hz0 y1)))))
  clear a1 hf1 hb2 hst e1 hb1 c6 c7 c8 c9 c10 c11 c12 y1
  unfold Sv.val stA
  go_wp2_with fail
  obtain ⟨W2, hW2⟩ : ∃ W2, W2 = ((((((w1.setCell ⟨w.heap.size, 0, none⟩ (.int .i64 s'.tm)).setCell ⟨w.heap.size, 1, none⟩ (.int .i64 s'.vt)).setCell ⟨w.heap.size, 2, none⟩ (.int .i64 s'.b)).setCell ⟨w.heap.size, 3, none⟩ (.int .i64 s'.t)).setCell ⟨w.heap.size, 4, none⟩ (.slice s'.A s'.n s'.c)).setCell ⟨w.heap.size, 5, none⟩ (.slice s'.C s'.nc s'.cc)).setCell ⟨w.heap.size, 6, none⟩ (.slice s'.S s'.ns s'.cs) := ⟨_, rfl⟩
  have x2 : Bx W2 w.heap.size s'.cells := by
    rw [hW2]
    exact Bx.set7 K1.out.2.2.2.2.2 _ _ _ _ _ _ _
  have hk : ∀ b, b ≠ w.heap.size → W2.heap[b]? = w1.heap[b]? := fun b hb => by
    rw [hW2]
    exact keep7 hb _ _ _ _ _ _ _
  have b2 : Below w.heap.size w W2 := by
    rw [hW2]
    exact below7 K1.out.2.2.1 _ _ _ _ _ _ _
  rw [← hW2]
  clear hW2 q0 q1 q2 q3 q4 q5 q6 p0 p1 p2 p3 p4 p5 p6
  obtain ⟨ty2, hg2⟩ := x2.hp
  refine bodyPost_ret (results_cell_row rfl _ _ w.heap.size _ _ (0, 0) _ rfl hg2 Tryz.underlying35 rfl (by kernel_rfl)) rfl ?_
  have hz := K1.out.2.2.2.2.1
  exact ⟨s', rfl, (K1.out.1.keep fun b hb _ => hk b (by omega)).mono fun b hb => by omega, K1.out.2.2.2.1, K1.out.2.1, b2⟩
theorem load_nil (w : World) : Calls Tryz.prog 9 #[.pointer none] w (fun e w' => e = .returned (.agg z7) ∧ Below w.heap.size w w') := by
  go_enter Tryz.func9, Tryz.ntmps9
  go_wp2_with fail
  refine bodyPost_ret (by simp [results, Tryz.results9, go_sem]; rfl) rfl ?_
  exact ⟨rfl, (Below.refl _ _).alloc (Nat.le_refl _) _⟩
end Go.Proofs.YtlecglmiigdjlaaGreatDoor
namespace Go.Proofs.YtlecglmiigdjlaaGreatDoor
open Go.RowKit
set_option maxRecDepth 100000
set_option linter.unusedVariables false
set_option linter.unusedSimpArgs false
variable {fb : Nat}
theorem cell_of_heap {W W' : World} {p : Nat} {o : Nat} (h : W'.heap[p]? = W.heap[p]?) : W'.cell? ⟨p, o, none⟩ = W.cell? ⟨p, o, none⟩ := by unfold World.cell?; rw [h]
def pickS (K : Kp) (o : Bool) : Option (Nat × St) → Option Kp
  | none => none
  | some x => some (if K.n < x.1 then { K with n := x.1, now := x.2, on := o } else K)
def stepC (K : Kp) (o : Bool) (l : List UInt8) : Option Kp := if (if o = true then K.t1.n else K.t0.n) = 0 then some K else pickS K o (stD l)
def chooseS (K : Kp) (l0 l1 : List UInt8) : Option Kp := (stepC K false l0).bind fun K => stepC K true l1
theorem idx2_0 (a b : Option Addr) (n m c d : Nat) (W : World) : (Instr.index 82 (.agg #[.slice a n c, .slice b m d]) (.int .i64 0)).run Tryz.prog W = .ok (.slice a n c) W := by kernel_rfl
theorem idx2_1 (a b : Option Addr) (n m c d : Nat) (W : World) : (Instr.index 82 (.agg #[.slice a n c, .slice b m d]) (.int .i64 1)).run Tryz.prog W = .ok (.slice b m d) W := by kernel_rfl
attribute [local go_sem] idx2_0 idx2_1
def ChoP (fb : Nat) (W : World) (L : Nat → Prop) (k g t0 t1 : Nat) (D : Dk) (sz : Nat) : Option Kp → Ending → World → Prop
  | none, e, w' => e = .returned (.iface 69 (.int .i64 14)) ∧ Kept (fun b => b = k) W w'
  | some K, e, w' => e = .returned .nilIface ∧ Kept (fun b => b = k) W w' ∧ ∃ z, KX fb w' L k g t0 t1 K z D sz
section
variable {L : Nat → Prop} {k g t0 t1 : Nat} {K : Kp} {z : Sv} {D : Dk} {sz : Nat}
theorem ChoP_none (W w' : World) (e : Ending) : ChoP fb W L k g t0 t1 D sz none e w' = (e = .returned (.iface 69 (.int .i64 14)) ∧ Kept (fun b => b = k) W w') := rfl
theorem ChoP_some (W w' : World) (e : Ending) : ChoP fb W L k g t0 t1 D sz (some K) e w' = (e = .returned .nilIface ∧ Kept (fun b => b = k) W w' ∧ ∃ z, KX fb w' L k g t0 t1 K z D sz) := rfl
set_option maxHeartbeats 6400000 in
theorem choose_any (w : World) (h : KX fb w L k g t0 t1 K z D sz) (A0 A1 : Option Addr) (n0 n1 m0 m1 : Nat) (l0 l1 : List UInt8) (hr0 : Rd w (fun b => b ≠ k) 1 A0 n0 (bs l0)) (hr1 : Rd w (fun b => b ≠ k) 1 A1 n1 (bs l1)) (hc0 : n0 ≤ m0 ∧ m0 ≤ maxLen) (hc1 : n1 ≤ m1 ∧ m1 ≤ maxLen) (hev : EvW w w.heap.size) (hev2 : EvW w k) :
    Calls Tryz.prog 34 #[.pointer (some ⟨k, 0, none⟩), .agg #[.slice A0 n0 m0, .slice A1 n1 m1]] w (ChoP fb w L k g t0 t1 D sz (chooseS K l0 l1)) := by
  obtain ⟨W0, hW0⟩ : ∃ W0, W0 = w.alloc (.cells #[.slice A0 n0 m0, .slice A1 n1 m1] 82) := ⟨_, rfl⟩
  have b0 : Bx W0 w.heap.size #[.slice A0 n0 m0, .slice A1 n1 m1] := by subst hW0; exact Bx.new _ _ _ rfl
  have hbe : Below w.heap.size w W0 := by subst hW0; exact (Below.refl _ _).alloc (Nat.le_refl _) _
  have h0 := h.below hbe
  have hk0 : Kept (fun b => b = k) w W0 := Kept.of_new hbe
  have hzz : w.heap.size ≤ W0.heap.size := hbe.size
  obtain ⟨d0, d1, -⟩ := b0.c2
  have HW := Lib.hid hW0
  have B := Lib.hid (And.intro h0 (And.intro hk0 (And.intro hr0 (And.intro hr1 (And.intro hev2 (And.intro hc0 (And.intro hc1 h.kb.lt)))))))
  clear hW0 b0 hbe h0 hk0 hr0 hr1 hev hev2 hc0 hc1 h hzz
  go_enter Tryz.func34, Tryz.ntmps34
  go_upto_region 1 with (fail)
  rw [← HW.out]
  go_wp2_with fail
  clear d0 d1
  go_loopg [5, 6, 7, 8, 9, 11] 2 (fun c s5 s6 s7 s8 s9 s11 wr => ∃ (j : Nat) (Kj : Kp) (zj : Sv), c = 2 - j ∧ j ≤ 2 ∧ s11 = .int .i64 j ∧ KX fb wr L k g t0 t1 Kj zj D sz ∧ Kept (fun b => b = k) w wr ∧ (j = 0 → Kj = K) ∧ (j = 1 → stepC K false l0 = some Kj) ∧ (j = 2 → chooseS K l0 l1 = some Kj))
  case atStart => exact ⟨0, K, z, by omega, by omega, rfl, B.out.1, B.out.2.1, fun _ => rfl, fun h => by omega, fun h => by omega⟩
  case round =>
    obtain ⟨j, Kj, zj, hc, hj, rfl, hx, hkp, hj0, hj1, hj2⟩ := hrel
    have Hc := Lib.hid hc
    have J := Lib.hid (And.intro hx hkp)
    clear hc hx hkp
    by_cases hlt : j < 2
    · have hcs : j = 0 ∨ j = 1 := by omega
      obtain ⟨c0, c1, c2, c3, c4, c5, c13⟩ := J.out.1.c
      rcases hcs with rfl | rfl
      · have hKj := hj0 rfl
        have hS : stepC K false l0 = stepC Kj false l0 := by rw [hKj]
        have HS := Lib.hid hS
        clear hS hj0 hj1 hj2 hKj
        by_cases hn0 : Kj.t0.n = 0
        · have hnz : ((Kj.t0.n : Nat) : Int) = 0 := by omega
          have hK : stepC K false l0 = some Kj := by rw [HS.out]; unfold stepC; rw [if_pos (show (if (false : Bool) = true then Kj.t1.n else Kj.t0.n) = 0 from hn0)]
          have HK := Lib.hid hK
          clear hK
          go_wp2_with fail
          refine (len_any wr J.out.1.tx0).mono ?_
          rintro e w2 ⟨rfl, rfl⟩
          rw [hnz]
          go_wp2_with fail
          go_roundg (2 - (0 + 1))
          case measure => have := Hc.out; omega
          case rel => exact ⟨0 + 1, Kj, zj, rfl, by omega, by go_num, J.out.1, J.out.2, fun h => by omega, fun _ => HK.out, fun h => by omega⟩
        · have hnz : (((Kj.t0.n : Nat) : Int) == 0) = false := by simpa using hn0
          have hS2 : stepC K false l0 = pickS Kj false (stD l0) := by rw [HS.out]; unfold stepC; rw [if_neg (show ¬ (if (false : Bool) = true then Kj.t1.n else Kj.t0.n) = 0 from hn0)]
          have hrd : Rd wr (fun b => b ≠ k) 1 A0 n0 (bs l0) := B.out.2.2.1.keep fun b hb hl => J.out.2.block b hl hb
          have hev : EvW wr wr.heap.size := by
            obtain ⟨te, pe, tr, pr, e1, e2, e3, e4⟩ := B.out.2.2.2.2.1
            have hkl := B.out.2.2.2.2.2.2.2
            have hsz := J.out.2.size
            exact ⟨te, pe, tr, pr, (cell_of_heap (J.out.2.block _ (by omega) (by omega))).trans e1, (cell_of_heap (J.out.2.block _ (by omega) (by omega))).trans e2, by omega, by omega⟩
          have hdc := kdec_any A0 n0 m0 l0 wr hrd B.out.2.2.2.2.2.1.1 B.out.2.2.2.2.2.1.2 hev
          obtain ⟨od, hod⟩ : ∃ od, stD l0 = od := ⟨_, rfl⟩
          rw [hod] at hdc hS2
          have Hdc := Lib.hid hdc
          have HS2 := Lib.hid hS2
          clear hdc hrd hev hS2 hod hn0
          cases od with
          | none =>
            have HK := Lib.hid HS2.out
            have hno : chooseS K l0 l1 = none := by unfold chooseS; rw [HK.out]; rfl
            rw [hno]
            clear HK hno
            go_wp2_with fail
            refine (len_any wr J.out.1.tx0).mono ?_
            rintro e w2 ⟨rfl, rfl⟩
            go_wp2_with fail
            refine Hdc.out.mono ?_
            intro e w3 hp
            rw [DecPost_none] at hp
            obtain ⟨rfl, hb3⟩ := hp
            have hk3 := J.out.2.trans (V := fun _ => False) (Kept.of_new hb3) fun _ _ h => h.elim
            have e3 : errE 3 = .iface 69 (.int .i64 3) := rfl
            rw [e3]
            unfold z7
            have Hk3 := Lib.hid hk3
            clear hk3 hb3 e3
            go_wp2_with fail
            go_ret
            rw [ChoP_none]
            exact ⟨rfl, Hk3.out.alloc _⟩
          | some x =>
            go_wp2_with fail
            refine (len_any wr J.out.1.tx0).mono ?_
            rintro e w2 ⟨rfl, rfl⟩
            go_wp2_with fail
            refine Hdc.out.mono ?_
            intro e w3 hp
            rw [DecPost_some] at hp
            obtain ⟨s, rfl, hat, hst, hfit, hb3⟩ := hp
            have e0 : errE 0 = .nilIface := rfl
            rw [e0]
            have x3 := J.out.1.below hb3
            have k3 := J.out.2.trans (V := fun _ => False) (Kept.of_new hb3) fun _ _ h => h.elim
            obtain ⟨W4, hW4⟩ : ∃ W4, W4 = w3.alloc (.cells s.cells 35) := ⟨_, rfl⟩
            have hb4 : Below w3.heap.size w3 W4 := by subst hW4; exact (Below.refl _ _).alloc (Nat.le_refl _) _
            have bx4 : Bx W4 w3.heap.size s.cells := by subst hW4; exact Bx.new _ _ _ rfl
            have x4 := x3.below hb4
            have k4 : Kept (fun b => b = k) w W4 := k3.trans (V := fun _ => False) (Kept.of_new hb4) fun _ _ h => h.elim
            have a4 := hat.below hb4
            obtain ⟨i0, i1, i2, i3, i4, i5, i6⟩ := Sv.c7 bx4
            have hlow : ∀ b, w2.heap.size < b → ¬ L b ∧ b ≠ t0 ∧ b ≠ t1 ∧ b ≠ k ∧ b ≠ fb := fun b hb => ⟨fun hl => by have := J.out.1.dx.lt b hl; omega, fun e => by have := J.out.1.b0.lt; omega, fun e => by have := J.out.1.b1.lt; omega, fun e => by have := J.out.1.kb.lt; omega, fun e => by have := J.out.1.flt; omega⟩
            have D4 := Lib.hid (And.intro x4 (And.intro k4 (And.intro (a4.mono hlow) (And.intro hst hfit))))
            have HW4 := Lib.hid hW4
            have HbW := Lib.hid bx4
            have Hz3 := Lib.hid hb3.size
            clear c0 c1 c2 c3 c4 c5 c13 x3 k3 hb3 hb4 bx4 k4 a4 hlow hst hfit hat hW4 e0
            obtain ⟨c0, c1, c2, c3, c4, c5, c13⟩ := x4.c
            have fk := x4.kb.f
            obtain ⟨c6, c7, c8, c9, c10, c11, c12⟩ := x4.cs
            clear x4
            unfold Sv.val stA
            by_cases hgt : Kj.n < x.1
            · have hgtd : decide (Kj.n < x.1) = true := decide_eq_true (by omega)
              have hK : stepC K false l0 = some { Kj with n := x.1, now := x.2, on := false } := by rw [HS2.out]; show some (if Kj.n < x.1 then _ else _) = _; rw [if_pos hgt]
              have HK := Lib.hid hK
              clear hK hgt
              go_upto_region 6 with (fail)
              have HW' := HW4.out
              unfold Sv.cells at HW'
              rw [← HW']
              clear HW'
              go_upto_region 9 with (fail)
              have FB : ∀ W, Bx W w3.heap.size s.cells → W.cell? ⟨w3.heap.size, 0, none⟩ = some (.int .i64 s.tm) ∧ W.cell? ⟨w3.heap.size, 1, none⟩ = some (.int .i64 s.vt) ∧ W.cell? ⟨w3.heap.size, 2, none⟩ = some (.int .i64 s.b) ∧ W.cell? ⟨w3.heap.size, 3, none⟩ = some (.int .i64 s.t) ∧ W.cell? ⟨w3.heap.size, 4, none⟩ = some (.slice s.A s.n s.c) ∧ W.cell? ⟨w3.heap.size, 5, none⟩ = some (.slice s.C s.nc s.cc) ∧ W.cell? ⟨w3.heap.size, 6, none⟩ = some (.slice s.S s.ns s.cs) := fun W h => Sv.c7 h
              have FF := Lib.hid FB
              have hkb : w3.heap.size ≠ k := by have := B.out.2.2.2.2.2.2.2; have := J.out.2.size; have := Hz3.out; omega
              have g4 := fk 4
              have g5 := fk 5
              have g6 := fk 6
              have g7 := fk 7
              have g8 := fk 8
              have g9 := fk 9
              have g10 := fk 10
              have g11 := fk 11
              have g12 := fk 12
              clear FB fk
              refine wp_region_S 14 (fun W => Bx W w3.heap.size s.cells) (.take 0 (.take 1 (.take 2 (.take 3 (.take 4 (.take 5 (.take 6 (.take 7 (.one 8 (.take 9 (.take 10 (.one 11 (.take 12 (.take 13 (.one 14 (.nil)))))))))))))))) (by kernel_rfl) HbW.out.drew (fun _ _ _ _ h => h) (fun hS => ?_)
              repeat (first
                | (refine wpS_take (v := ?_) rfl rfl (by rfl) ?_ ?_; rotate_left; (intro W hW; have hf := FF.out W hW; go_split_ands; go_simp; try with_reducible rfl); try simp only [Act.put, List.setIfInBounds_toArray, List.set_cons_zero, List.set_cons_succ])
                | (refine wpS_skip rfl rfl (by rfl) ?_; try simp only [Act.put, List.setIfInBounds_toArray, List.set_cons_zero, List.set_cons_succ]))
              refine wpS_one rfl (by rfl) (fun K hK => ?_)
              go_simp
              refine hK (fun W => Bx W w3.heap.size s.cells) _ _ (fun _ h => h) ((HbW.out.far hkb _).drew) ?_
              clear hK K
              try simp only [Act.put, List.setIfInBounds_toArray, List.set_cons_zero, List.set_cons_succ]
              repeat (first
                | (refine wpS_take (v := ?_) rfl rfl (by rfl) ?_ ?_; rotate_left; (intro W hW; have hf := FF.out W hW; go_split_ands; go_simp; try with_reducible rfl); try simp only [Act.put, List.setIfInBounds_toArray, List.set_cons_zero, List.set_cons_succ])
                | (refine wpS_skip rfl rfl (by rfl) ?_; try simp only [Act.put, List.setIfInBounds_toArray, List.set_cons_zero, List.set_cons_succ]))
              refine wpS_one rfl (by rfl) (fun K hK => ?_)
              go_simp
              refine hK (fun W => Bx W w3.heap.size s.cells) _ _ (fun _ h => h) (((((((((HbW.out.far hkb _).far hkb _).far hkb _).far hkb _).far hkb _).far hkb _).far hkb _).far hkb _).drew) ?_
              clear hK K
              try simp only [Act.put, List.setIfInBounds_toArray, List.set_cons_zero, List.set_cons_succ]
              repeat (first
                | (refine wpS_take (v := ?_) rfl rfl (by rfl) ?_ ?_; rotate_left; (intro W hW; have hf := FF.out W hW; go_split_ands; go_simp; try with_reducible rfl); try simp only [Act.put, List.setIfInBounds_toArray, List.set_cons_zero, List.set_cons_succ])
                | (refine wpS_skip rfl rfl (by rfl) ?_; try simp only [Act.put, List.setIfInBounds_toArray, List.set_cons_zero, List.set_cons_succ]))
              refine wpS_last rfl (by rfl) (fun K hK => ?_)
              go_simp
              refine hK _ _ ?_
              clear hK K
              try simp only [Act.put, List.setIfInBounds_toArray, List.set_cons_zero, List.set_cons_succ]
              refine wpS_nil ?_
              obtain ⟨W6, hW6⟩ : ∃ W6, W6 = (((((((((W4.setCell ⟨k, 5, none⟩ (.int .i64 ((x.1 : Nat)))).setCell ⟨k, 6, none⟩ (.int .i64 s.tm)).setCell ⟨k, 7, none⟩ (.int .i64 s.vt)).setCell ⟨k, 8, none⟩ (.int .i64 s.b)).setCell ⟨k, 9, none⟩ (.int .i64 s.t)).setCell ⟨k, 10, none⟩ (.slice s.A s.n s.c)).setCell ⟨k, 11, none⟩ (.slice s.C s.nc s.cc)).setCell ⟨k, 12, none⟩ (.slice s.S s.ns s.cs)).setCell ⟨k, 4, none⟩ (.int .i64 0)).drew := ⟨_, rfl⟩
              have kx := (D4.out.1.fin s D4.out.2.2.1 D4.out.2.2.2.2 x.1 false).drew
              rw [D4.out.2.2.2.1, show onI false = 0 from rfl, ← hW6] at kx
              have kp : Kept (fun b => b = k) w W6 := by
                rw [hW6]
                refine Kept.drew ?_
                iterate 9 refine Kept.set ?_ (by rfl) _
                exact D4.out.2.1
              rw [← hW6]
              have KX6 := Lib.hid (And.intro kx kp)
              clear kx kp hW6 hS
              go_wp2_with fail
              go_roundg (2 - (0 + 1))
              case measure => have := Hc.out; omega
              case rel => exact ⟨0 + 1, _, s, rfl, by omega, by go_num, KX6.out.1, KX6.out.2, fun h => by omega, fun _ => HK.out, fun h => by omega⟩
            · have hgtd : decide (Kj.n < x.1) = false := decide_eq_false (by omega)
              have hK : stepC K false l0 = some Kj := by rw [HS2.out]; show some (if Kj.n < x.1 then _ else _) = _; rw [if_neg hgt]
              have HK := Lib.hid hK
              clear hK hgt
              go_upto_region 6 with (fail)
              have HW' := HW4.out
              unfold Sv.cells at HW'
              rw [← HW']
              clear HW'
              go_wp2_with fail
              go_roundg (2 - (0 + 1))
              case measure => have := Hc.out; omega
              case rel => exact ⟨0 + 1, Kj, zj, rfl, by omega, by go_num, D4.out.1, D4.out.2.1, fun h => by omega, fun _ => HK.out, fun h => by omega⟩
      · have hKj := hj1 rfl
        have hS : chooseS K l0 l1 = stepC Kj true l1 := by unfold chooseS; rw [hKj]; rfl
        have HS := Lib.hid hS
        clear hS hj0 hj1 hj2 hKj
        by_cases hn0 : Kj.t1.n = 0
        · have hnz : ((Kj.t1.n : Nat) : Int) = 0 := by omega
          have hK : chooseS K l0 l1 = some Kj := by rw [HS.out]; unfold stepC; rw [if_pos (show (if (true : Bool) = true then Kj.t1.n else Kj.t0.n) = 0 from hn0)]
          have HK := Lib.hid hK
          clear hK
          go_wp2_with fail
          refine (len_any wr J.out.1.tx1).mono ?_
          rintro e w2 ⟨rfl, rfl⟩
          rw [hnz]
          go_wp2_with fail
          go_roundg (2 - (1 + 1))
          case measure => have := Hc.out; omega
          case rel => exact ⟨1 + 1, Kj, zj, rfl, by omega, by go_num, J.out.1, J.out.2, fun h => by omega, fun h => by omega, fun _ => HK.out⟩
        · have hnz : (((Kj.t1.n : Nat) : Int) == 0) = false := by simpa using hn0
          have hS2 : chooseS K l0 l1 = pickS Kj true (stD l1) := by rw [HS.out]; unfold stepC; rw [if_neg (show ¬ (if (true : Bool) = true then Kj.t1.n else Kj.t0.n) = 0 from hn0)]
          have hrd : Rd wr (fun b => b ≠ k) 1 A1 n1 (bs l1) := B.out.2.2.2.1.keep fun b hb hl => J.out.2.block b hl hb
          have hev : EvW wr wr.heap.size := by
            obtain ⟨te, pe, tr, pr, e1, e2, e3, e4⟩ := B.out.2.2.2.2.1
            have hkl := B.out.2.2.2.2.2.2.2
            have hsz := J.out.2.size
            exact ⟨te, pe, tr, pr, (cell_of_heap (J.out.2.block _ (by omega) (by omega))).trans e1, (cell_of_heap (J.out.2.block _ (by omega) (by omega))).trans e2, by omega, by omega⟩
          have hdc := kdec_any A1 n1 m1 l1 wr hrd B.out.2.2.2.2.2.2.1.1 B.out.2.2.2.2.2.2.1.2 hev
          obtain ⟨od, hod⟩ : ∃ od, stD l1 = od := ⟨_, rfl⟩
          rw [hod] at hdc hS2
          have Hdc := Lib.hid hdc
          have HS2 := Lib.hid hS2
          clear hdc hrd hev hS2 hod hn0
          cases od with
          | none =>
            have HK := Lib.hid HS2.out
            have hno : chooseS K l0 l1 = none := by exact HK.out
            rw [hno]
            clear HK hno
            go_wp2_with fail
            refine (len_any wr J.out.1.tx1).mono ?_
            rintro e w2 ⟨rfl, rfl⟩
            go_wp2_with fail
            refine Hdc.out.mono ?_
            intro e w3 hp
            rw [DecPost_none] at hp
            obtain ⟨rfl, hb3⟩ := hp
            have hk3 := J.out.2.trans (V := fun _ => False) (Kept.of_new hb3) fun _ _ h => h.elim
            have e3 : errE 3 = .iface 69 (.int .i64 3) := rfl
            rw [e3]
            unfold z7
            have Hk3 := Lib.hid hk3
            clear hk3 hb3 e3
            go_wp2_with fail
            go_ret
            rw [ChoP_none]
            exact ⟨rfl, Hk3.out.alloc _⟩
          | some x =>
            go_wp2_with fail
            refine (len_any wr J.out.1.tx1).mono ?_
            rintro e w2 ⟨rfl, rfl⟩
            go_wp2_with fail
            refine Hdc.out.mono ?_
            intro e w3 hp
            rw [DecPost_some] at hp
            obtain ⟨s, rfl, hat, hst, hfit, hb3⟩ := hp
            have e0 : errE 0 = .nilIface := rfl
            rw [e0]
            have x3 := J.out.1.below hb3
            have k3 := J.out.2.trans (V := fun _ => False) (Kept.of_new hb3) fun _ _ h => h.elim
            obtain ⟨W4, hW4⟩ : ∃ W4, W4 = w3.alloc (.cells s.cells 35) := ⟨_, rfl⟩
            have hb4 : Below w3.heap.size w3 W4 := by subst hW4; exact (Below.refl _ _).alloc (Nat.le_refl _) _
            have bx4 : Bx W4 w3.heap.size s.cells := by subst hW4; exact Bx.new _ _ _ rfl
            have x4 := x3.below hb4
            have k4 : Kept (fun b => b = k) w W4 := k3.trans (V := fun _ => False) (Kept.of_new hb4) fun _ _ h => h.elim
            have a4 := hat.below hb4
            obtain ⟨i0, i1, i2, i3, i4, i5, i6⟩ := Sv.c7 bx4
            have hlow : ∀ b, w2.heap.size < b → ¬ L b ∧ b ≠ t0 ∧ b ≠ t1 ∧ b ≠ k ∧ b ≠ fb := fun b hb => ⟨fun hl => by have := J.out.1.dx.lt b hl; omega, fun e => by have := J.out.1.b0.lt; omega, fun e => by have := J.out.1.b1.lt; omega, fun e => by have := J.out.1.kb.lt; omega, fun e => by have := J.out.1.flt; omega⟩
            have D4 := Lib.hid (And.intro x4 (And.intro k4 (And.intro (a4.mono hlow) (And.intro hst hfit))))
            have HW4 := Lib.hid hW4
            have HbW := Lib.hid bx4
            have Hz3 := Lib.hid hb3.size
            clear c0 c1 c2 c3 c4 c5 c13 x3 k3 hb3 hb4 bx4 k4 a4 hlow hst hfit hat hW4 e0
            obtain ⟨c0, c1, c2, c3, c4, c5, c13⟩ := x4.c
            have fk := x4.kb.f
            obtain ⟨c6, c7, c8, c9, c10, c11, c12⟩ := x4.cs
            clear x4
            unfold Sv.val stA
            by_cases hgt : Kj.n < x.1
            · have hgtd : decide (Kj.n < x.1) = true := decide_eq_true (by omega)
              have hK : chooseS K l0 l1 = some { Kj with n := x.1, now := x.2, on := true } := by rw [HS2.out]; show some (if Kj.n < x.1 then _ else _) = _; rw [if_pos hgt]
              have HK := Lib.hid hK
              clear hK hgt
              go_upto_region 6 with (fail)
              have HW' := HW4.out
              unfold Sv.cells at HW'
              rw [← HW']
              clear HW'
              go_upto_region 9 with (fail)
              have FB : ∀ W, Bx W w3.heap.size s.cells → W.cell? ⟨w3.heap.size, 0, none⟩ = some (.int .i64 s.tm) ∧ W.cell? ⟨w3.heap.size, 1, none⟩ = some (.int .i64 s.vt) ∧ W.cell? ⟨w3.heap.size, 2, none⟩ = some (.int .i64 s.b) ∧ W.cell? ⟨w3.heap.size, 3, none⟩ = some (.int .i64 s.t) ∧ W.cell? ⟨w3.heap.size, 4, none⟩ = some (.slice s.A s.n s.c) ∧ W.cell? ⟨w3.heap.size, 5, none⟩ = some (.slice s.C s.nc s.cc) ∧ W.cell? ⟨w3.heap.size, 6, none⟩ = some (.slice s.S s.ns s.cs) := fun W h => Sv.c7 h
              have FF := Lib.hid FB
              have hkb : w3.heap.size ≠ k := by have := B.out.2.2.2.2.2.2.2; have := J.out.2.size; have := Hz3.out; omega
              have g4 := fk 4
              have g5 := fk 5
              have g6 := fk 6
              have g7 := fk 7
              have g8 := fk 8
              have g9 := fk 9
              have g10 := fk 10
              have g11 := fk 11
              have g12 := fk 12
              clear FB fk
              refine wp_region_S 14 (fun W => Bx W w3.heap.size s.cells) (.take 0 (.take 1 (.take 2 (.take 3 (.take 4 (.take 5 (.take 6 (.take 7 (.one 8 (.take 9 (.take 10 (.one 11 (.take 12 (.take 13 (.one 14 (.nil)))))))))))))))) (by kernel_rfl) HbW.out.drew (fun _ _ _ _ h => h) (fun hS => ?_)
              repeat (first
                | (refine wpS_take (v := ?_) rfl rfl (by rfl) ?_ ?_; rotate_left; (intro W hW; have hf := FF.out W hW; go_split_ands; go_simp; try with_reducible rfl); try simp only [Act.put, List.setIfInBounds_toArray, List.set_cons_zero, List.set_cons_succ])
                | (refine wpS_skip rfl rfl (by rfl) ?_; try simp only [Act.put, List.setIfInBounds_toArray, List.set_cons_zero, List.set_cons_succ]))
              refine wpS_one rfl (by rfl) (fun K hK => ?_)
              go_simp
              refine hK (fun W => Bx W w3.heap.size s.cells) _ _ (fun _ h => h) ((HbW.out.far hkb _).drew) ?_
              clear hK K
              try simp only [Act.put, List.setIfInBounds_toArray, List.set_cons_zero, List.set_cons_succ]
              repeat (first
                | (refine wpS_take (v := ?_) rfl rfl (by rfl) ?_ ?_; rotate_left; (intro W hW; have hf := FF.out W hW; go_split_ands; go_simp; try with_reducible rfl); try simp only [Act.put, List.setIfInBounds_toArray, List.set_cons_zero, List.set_cons_succ])
                | (refine wpS_skip rfl rfl (by rfl) ?_; try simp only [Act.put, List.setIfInBounds_toArray, List.set_cons_zero, List.set_cons_succ]))
              refine wpS_one rfl (by rfl) (fun K hK => ?_)
              go_simp
              refine hK (fun W => Bx W w3.heap.size s.cells) _ _ (fun _ h => h) (((((((((HbW.out.far hkb _).far hkb _).far hkb _).far hkb _).far hkb _).far hkb _).far hkb _).far hkb _).drew) ?_
              clear hK K
              try simp only [Act.put, List.setIfInBounds_toArray, List.set_cons_zero, List.set_cons_succ]
              repeat (first
                | (refine wpS_take (v := ?_) rfl rfl (by rfl) ?_ ?_; rotate_left; (intro W hW; have hf := FF.out W hW; go_split_ands; go_simp; try with_reducible rfl); try simp only [Act.put, List.setIfInBounds_toArray, List.set_cons_zero, List.set_cons_succ])
                | (refine wpS_skip rfl rfl (by rfl) ?_; try simp only [Act.put, List.setIfInBounds_toArray, List.set_cons_zero, List.set_cons_succ]))
              refine wpS_last rfl (by rfl) (fun K hK => ?_)
              go_simp
              refine hK _ _ ?_
              clear hK K
              try simp only [Act.put, List.setIfInBounds_toArray, List.set_cons_zero, List.set_cons_succ]
              refine wpS_nil ?_
              obtain ⟨W6, hW6⟩ : ∃ W6, W6 = (((((((((W4.setCell ⟨k, 5, none⟩ (.int .i64 ((x.1 : Nat)))).setCell ⟨k, 6, none⟩ (.int .i64 s.tm)).setCell ⟨k, 7, none⟩ (.int .i64 s.vt)).setCell ⟨k, 8, none⟩ (.int .i64 s.b)).setCell ⟨k, 9, none⟩ (.int .i64 s.t)).setCell ⟨k, 10, none⟩ (.slice s.A s.n s.c)).setCell ⟨k, 11, none⟩ (.slice s.C s.nc s.cc)).setCell ⟨k, 12, none⟩ (.slice s.S s.ns s.cs)).setCell ⟨k, 4, none⟩ (.int .i64 1)).drew := ⟨_, rfl⟩
              have kx := (D4.out.1.fin s D4.out.2.2.1 D4.out.2.2.2.2 x.1 true).drew
              rw [D4.out.2.2.2.1, show onI true = 1 from rfl, ← hW6] at kx
              have kp : Kept (fun b => b = k) w W6 := by
                rw [hW6]
                refine Kept.drew ?_
                iterate 9 refine Kept.set ?_ (by rfl) _
                exact D4.out.2.1
              rw [← hW6]
              have KX6 := Lib.hid (And.intro kx kp)
              clear kx kp hW6 hS
              go_wp2_with fail
              go_roundg (2 - (1 + 1))
              case measure => have := Hc.out; omega
              case rel => exact ⟨1 + 1, _, s, rfl, by omega, by go_num, KX6.out.1, KX6.out.2, fun h => by omega, fun h => by omega, fun _ => HK.out⟩
            · have hgtd : decide (Kj.n < x.1) = false := decide_eq_false (by omega)
              have hK : chooseS K l0 l1 = some Kj := by rw [HS2.out]; show some (if Kj.n < x.1 then _ else _) = _; rw [if_neg hgt]
              have HK := Lib.hid hK
              clear hK hgt
              go_upto_region 6 with (fail)
              have HW' := HW4.out
              unfold Sv.cells at HW'
              rw [← HW']
              clear HW'
              go_wp2_with fail
              go_roundg (2 - (1 + 1))
              case measure => have := Hc.out; omega
              case rel => exact ⟨1 + 1, Kj, zj, rfl, by omega, by go_num, D4.out.1, D4.out.2.1, fun h => by omega, fun h => by omega, fun _ => HK.out⟩
    · obtain rfl : j = 2 := by omega
      rw [hj2 rfl]
      go_wp2_with fail
      go_ret
      rw [ChoP_some]
      exact ⟨rfl, J.out.2, zj, J.out.1⟩
end
end Go.Proofs.YtlecglmiigdjlaaGreatDoor
