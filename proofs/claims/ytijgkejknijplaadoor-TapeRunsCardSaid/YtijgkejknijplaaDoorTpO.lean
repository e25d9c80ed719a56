/- Walk of a tape's Open. -/
import Derived.Test.YtijgkejknijplaaDoorTpN
import Derived.Test.YtijgkejknijplaaDoorTpL
import Derived.Test.YtijgkejknijplaaDoorArm
import Derived.Test.YtijgkejknijplaaDoorBrows
namespace Go.Proofs.YtijgkejknijplaaDoor
open Go.RowKit
set_option maxRecDepth 100000
set_option linter.unusedVariables false
set_option linter.unusedSimpArgs false
theorem bb_elem : Elem Tryd.prog 22 (.slice none 0 0) 1 24 := by unfold Elem; kernel_rfl
/-- Rows of bytes in memory, all within ok. -/
def BR (W : World) (ok : Nat → Prop) (A : Option Addr) (n : Nat) (rows : List Br) : Prop := Rd W ok 1 A n (flat brcell rows) ∧ ∀ x ∈ rows, Rd W ok 1 x.A x.n (bs x.d) ∧ x.n ≤ x.m ∧ x.m ≤ maxLen
theorem brcell_one (l : List Br) : ∀ u ∈ flat brcell l, u.oneCell' = true := by
  induction l with
  | nil => intro u hu; cases hu
  | cons x l ih =>
    intro u hu
    rw [flat_cons, List.mem_append] at hu
    rcases hu with hu | hu
    · simp only [brcell, List.mem_cons, List.not_mem_nil, or_false] at hu
      subst hu
      rfl
    · exact ih u hu
def BadArea (z : Nat) (a n : Int) : Prop := a < 0 ∨ n < 5 ∨ (z : Int) < a ∨ (z : Int) - a < n
def OpenPost (W : World) (L : Nat → Prop) (g : Nat) (D : Dk) (z : Nat) (a n : Int) (e : Ending) (w' : World) : Prop := Below W.heap.size W w' ∧
  ((BadArea z a n ∧ e = .returned (.tuple #[.pointer none, .slice none 0 0, .iface 58 (.int .i64 1)])) ∨
  (¬ BadArea z a n ∧ D.off = true ∧ e = .returned (.tuple #[.pointer none, .slice none 0 0, .iface 58 (.int .i64 13)])) ∨
  (¬ BadArea z a n ∧ D.off = false ∧ (recs D.now a.toNat (a.toNat + n.toNat)).2.2 = true ∧ e = .returned (.tuple #[.pointer none, .slice none 0 0, .iface 58 (.int .i64 14)])) ∨
  (¬ BadArea z a n ∧ D.off = false ∧ (recs D.now a.toNat (a.toNat + n.toNat)).2.2 = false ∧ ∃ tg A m c rows, e = .returned (.tuple #[.pointer (some ⟨tg, 0, none⟩), .slice A m c, .nilIface]) ∧ W.heap.size ≤ tg ∧
    TDX w' L tg g ⟨a.toNat + n.toNat, a.toNat, (recs D.now a.toNat (a.toNat + n.toNat)).2.1, (recs D.now a.toNat (a.toNat + n.toNat)).1.length, 0⟩ D z ∧ BR w' (fun b => W.heap.size ≤ b ∧ b ≠ tg) A m rows ∧ rows.map Br.d = (recs D.now a.toNat (a.toNat + n.toNat)).1 ∧ m ≤ c ∧ c ≤ maxLen))
section
variable {W W' W2 : World} {L L' : Nat → Prop} {tg g : Nat} {t t' : Tp} {D D' : Dk} {z : Nat}
theorem open_bad (a n : Int) (w : World) (h : DX w L g D z) (ha : I64 a) (hn : I64 n) (hb : BadArea z a n) :
    Calls Tryd.prog 11 #[.pointer (some ⟨g, 0, none⟩), .agg #[.int .i64 a, .int .i64 n]] w (OpenPost w L g D z a n) := by
  have hz := h.z2
  have hsz := size_any (w.alloc (.cells #[.int .i64 a, .int .i64 n] 36)) (h.below ((Below.refl _ _).alloc (Nat.le_refl _) _))
  have Hb := Lib.hid hb
  unfold BadArea at hb
  unfold I64 at ha hn
  have hbe : Below w.heap.size w (w.alloc (.cells #[.int .i64 a, .int .i64 n] 36)) := (Below.refl _ _).alloc (Nat.le_refl _) _
  have Hbe := Lib.hid hbe
  unfold OpenPost
  clear hbe h
  by_cases h1 : a < 0
  · clear hb
    go_enter Tryd.func11, Tryd.ntmps11
    go_wp2_with fail
    refine hsz.mono ?_
    rintro e w1 ⟨rfl, rfl⟩
    go_wp2_with fail
    refine bodyPost_ret (by simp [results, Tryd.results11, go_sem]; rfl) rfl ?_
    exact ⟨Hbe.out, .inl ⟨Hb.out, rfl⟩⟩
  by_cases h2 : n < 5
  · clear hb
    have h1d : decide (a < 0) = false := by simp; omega
    go_enter Tryd.func11, Tryd.ntmps11
    go_wp2_with fail
    refine hsz.mono ?_
    rintro e w1 ⟨rfl, rfl⟩
    go_wp2_with fail
    refine bodyPost_ret (by simp [results, Tryd.results11, go_sem]; rfl) rfl ?_
    exact ⟨Hbe.out, .inl ⟨Hb.out, rfl⟩⟩
  have h1d : decide (a < 0) = false := by simp; omega
  have h2d : decide (n < 5) = false := by simp; omega
  by_cases h3 : (z : Int) < a
  · clear hb
    go_enter Tryd.func11, Tryd.ntmps11
    go_wp2_with fail
    refine hsz.mono ?_
    rintro e w1 ⟨rfl, rfl⟩
    go_wp2_with fail
    refine bodyPost_ret (by simp [results, Tryd.results11, go_sem]; rfl) rfl ?_
    exact ⟨Hbe.out, .inl ⟨Hb.out, rfl⟩⟩
  · have h3d : decide ((z : Int) < a) = false := by simp; omega
    have h4 : (z : Int) - a < n := by omega
    have s1 : -9223372036854775808 ≤ (z : Int) - a := by omega
    have s2 : (z : Int) - a < 9223372036854775808 := by omega
    clear hb
    go_enter Tryd.func11, Tryd.ntmps11
    go_wp2_with fail
    refine hsz.mono ?_
    rintro e w1 ⟨rfl, rfl⟩
    go_wp2_with fail
    refine bodyPost_ret (by simp [results, Tryd.results11, go_sem]; rfl) rfl ?_
    exact ⟨Hbe.out, .inl ⟨Hb.out, rfl⟩⟩
/-- What holds ahead of each round. -/
structure OpenI (w : World) (L : Nat → Prop) (tg g : Nat) (D : Dk) (z a n p k : Nat) (A : Option Addr) (c : Nat) (rows : List Br) (wr : World) : Prop where
  td : TDX wr L tg g ⟨a + n, a, p, k, 0⟩ D z
  own : wr.ownsRow (tg + 1) 22 1 (.slice A k c) k (flat brcell rows)
  dat : ∀ x ∈ rows, Rd wr (fun b => tg + 1 ≤ b ∧ A.map (·.block) ≠ some b) 1 x.A x.n (bs x.d) ∧ x.n ≤ x.m ∧ x.m ≤ maxLen
  len : rows.length = k
  rec_ : recs D.now a (a + n) = (rows.map Br.d ++ (recs D.now p (a + n)).1, (recs D.now p (a + n)).2)
  be : Below w.heap.size w wr
  tw : w.heap.size ≤ tg
theorem OpenI.below {w wr wr' : World} {a n p k : Nat} {A : Option Addr} {c : Nat} {rows : List Br} (h : OpenI w L tg g D z a n p k A c rows wr) (hb : Below wr.heap.size wr wr') : OpenI w L tg g D z a n p k A c rows wr' :=
  ⟨h.td.below hb, own_below h.own hb, fun x hx => ⟨(h.dat x hx).1.below hb, (h.dat x hx).2⟩, h.len, h.rec_, h.be.trans (hb.mono h.be.size), h.tw⟩
theorem OpenI.br {w wr : World} {a n p k : Nat} {A : Option Addr} {c : Nat} {rows : List Br} (h : OpenI w L tg g D z a n p k A c rows wr) : BR wr (fun b => w.heap.size ≤ b ∧ b ≠ tg) A k rows := by
  have := h.tw
  exact ⟨(Rd.of_own h.own).mono fun b hb => ⟨by omega, by omega⟩, fun x hx => ⟨(h.dat x hx).1.mono fun b hb => ⟨by omega, by omega⟩, (h.dat x hx).2⟩⟩
/-- Behind the last record. -/
theorem OpenI.fin {w wr : World} {a n p k : Nat} {A : Option Addr} {c : Nat} {rows : List Br} (h : OpenI w L tg g D z a n p k A c rows wr) (hb : ¬ BadArea z a n) (ho : D.off = false) (hr : recs D.now p (a + n) = ([], p, false)) : OpenPost w L g D z a n (.returned (.tuple #[.pointer (some ⟨tg, 0, none⟩), .slice A k c, .nilIface])) wr := by
  have e1 : recs D.now a (a + n) = (rows.map Br.d, p, false) := by rw [h.rec_, hr, List.append_nil]
  refine ⟨h.be, .inr (.inr (.inr ⟨hb, ho, ?_, tg, A, k, c, rows, rfl, h.tw, ?_, h.br, ?_, ?_⟩))⟩
  · rw [Int.toNat_natCast, Int.toNat_natCast, e1]
  · rw [Int.toNat_natCast, Int.toNat_natCast, e1, List.length_map, h.len]
    exact h.td
  · rw [Int.toNat_natCast, Int.toNat_natCast, e1]
  · obtain ⟨A', c', e2, e3, e4⟩ := own_form h.own
    injection e2 with _ _ e2
    subst e2
    exact ⟨e3, e4⟩
theorem OpenI.halt {w wr : World} {a n p k : Nat} {A : Option Addr} {c : Nat} {rows : List Br} (h : OpenI w L tg g D z a n p k A c rows wr) (hb : ¬ BadArea z a n) (ho : D.off = false) (hr : recs D.now p (a + n) = ([], p, true)) : OpenPost w L g D z a n (.returned (.tuple #[.pointer none, .slice none 0 0, .iface 58 (.int .i64 14)])) wr := by
  refine ⟨h.be, .inr (.inr (.inl ⟨hb, ho, ?_, rfl⟩))⟩
  rw [Int.toNat_natCast, Int.toNat_natCast, h.rec_, hr]
/-- One record more. -/
theorem OpenI.more {w wr w2 w3 : World} {a n p k N cc : Nat} {A A2 A3 : Option Addr} {c c2 c3 : Nat} {rows : List Br} (h : OpenI w L tg g D z a n p k A c rows wr) (hL : ∀ b, L b → b < w.heap.size) (hN : N = lnAt D.now p) (hm : mkAt D.now p = 1) (hle : p + 5 + N ≤ a + n)
    (htd : TDX w2 L tg g ⟨a + n, a, p + 5 + N, k + 1, 0⟩ D z) (hk : Kept (fun b => b = tg) wr w2) (hr : Rd w2 (wr.heap.size ≤ ·) 1 A2 N (bs (cutAt D.now (p + 5) N))) (hc2 : N ≤ c2 ∧ c2 ≤ maxLen) {t0 : TypeId}
    (hown : w3.ownsRow (tg + 1) 22 1 (.slice A3 (k + 1) c3) (k + 1) (flat brcell rows ++ [.slice A2 N c2])) (hg : (w2.alloc (.cells #[.slice A2 N c2] t0)).grownBy w3 (A.map (·.block))) (hat : A3.map (·.block) = A.map (·.block) ∨ A3.map (·.block) = some (w2.alloc (.cells #[.slice A2 N c2] t0)).heap.size) :
    OpenI w L tg g D z a n (p + 5 + N) (k + 1) A3 c3 (rows ++ [⟨A2, N, c2, cutAt D.now (p + 5) N⟩]) w3 := by
  have hrec := recs_one (l := D.now) (p := p) (e := a + n) (by rw [← hN]; exact hle) hm
  rw [← hN] at hrec
  have hs1 := hk.size
  have hs : (w2.alloc (.cells #[.slice A2 N c2] t0)).heap.size = w2.heap.size + 1 := by simp
  have hol := own_lt h.own
  have htw := h.tw
  have htl := h.td.lt
  have hws := h.be.size
  have hAg : ∀ b, A.map (·.block) = some b → tg + 1 ≤ b ∧ b < wr.heap.size := fun b hb => hol b hb
  have hkk : ∀ b, b < w2.heap.size → A.map (·.block) ≠ some b → w3.heap[b]? = w2.heap[b]? := fun b hb hne => (hg.block b (by omega) (fun e => hne e.symm)).trans (Below.heap_alloc w2 _ b hb)
  have hdlt := htd.dx.lt
  refine ⟨htd.keep (fun b hb => hkk b ?_ ?_) (Nat.le_trans (by omega) hg.size), ?_, ?_, ?_, ?_, ?_, htw⟩
  · rcases hb with hb | rfl
    · exact hdlt b hb
    · exact htd.lt
  · intro e
    have h1 := hAg b e
    rcases hb with hb | rfl
    · have := hL b hb
      omega
    · omega
  · rw [flat_append, flat_one]
    exact hown
  · intro x hx
    have hne : ∀ b, b < w2.heap.size → A.map (·.block) ≠ some b → A3.map (·.block) ≠ some b := by
      intro b hb h1 h2
      rcases hat with e | e
      · exact h1 (e ▸ h2)
      · rw [h2] at e
        injection e with e
        omega
    rcases List.mem_append.1 hx with hx | hx
    · have hd := h.dat x hx
      refine ⟨((hd.1.lt (by omega)).keep fun b hb _ => ?_).mono fun b hb => ⟨hb.1.1, hne b (by omega) hb.1.2⟩, hd.2⟩
      rw [hkk b (by omega) hb.1.2, hk.block b hb.2 (by omega)]
    · obtain rfl := List.mem_singleton.1 hx
      refine ⟨((hr.lt (by omega)).keep fun b hb _ => hkk b hb.2 fun e => ?_).mono fun b hb => ⟨by omega, hne b hb.2 fun e => ?_⟩, hc2⟩
      · have := hAg b e
        omega
      · have := hAg b e
        omega
  · rw [List.length_append, h.len]
    rfl
  · rw [h.rec_, hrec]
    simp only [List.map_append, List.append_assoc, List.map_cons, List.map_nil, List.cons_append, List.nil_append]
  · refine (h.be.trans ⟨hk.os, hk.tape, hk.output, hk.size, fun i hi => hk.block i (by omega) (by omega)⟩).trans ⟨?_, ?_, ?_, ?_, ?_⟩
    · exact hg.os
    · exact hg.tape
    · exact hg.output
    · exact Nat.le_trans (by omega) hg.size
    · intro i hi
      exact hkk i (by omega) fun e => by have := hAg i e; omega
theorem OpenI.start {w W1 : World} {a n : Nat} (h : DX w L g D z) (h1 : 5 ≤ n) (h2 : a + n ≤ z) (hb : Below w.heap.size w W1) (hs : W1.heap.size = w.heap.size + 1) : OpenI w L (w.heap.size + 1) g D z a n a 0 none 0 [] (W1.alloc (.cells #[.pointer (some ⟨g, 0, none⟩), .int .i64 ((a + n : Nat) : Int), .int .i64 (a : Nat), .int .i64 (a : Nat), .int .i64 0, .nilIface] 67)) := by
  have hlt := h.lt
  have hb' : Below w.heap.size w (W1.alloc (.cells #[.pointer (some ⟨g, 0, none⟩), .int .i64 ((a + n : Nat) : Int), .int .i64 (a : Nat), .int .i64 (a : Nat), .int .i64 0, .nilIface] 67)) := hb.alloc (by omega) _
  exact ⟨⟨h.below hb', Bx.new _ _ _ hs.symm, fun hl => by have := hlt _ hl; omega, ⟨Nat.le_refl _, by dsimp only; omega, by dsimp only; omega, by dsimp only; omega⟩⟩, own_nil _ _ _ _ _ rfl, fun x hx => (List.not_mem_nil hx).elim, rfl, rfl, hb', by omega⟩
set_option maxHeartbeats 3200000 in
theorem open_good (a n : Nat) (w : World) (h : DX w L g D z) (h1 : 5 ≤ n) (h2 : a + n ≤ z) :
    Calls Tryd.prog 11 #[.pointer (some ⟨g, 0, none⟩), .agg #[.int .i64 a, .int .i64 n]] w (OpenPost w L g D z a n) := by
  have hz := h.z2
  have hsz := size_any (w.alloc (.cells #[.int .i64 a, .int .i64 n] 36)) (h.below ((Below.refl _ _).alloc (Nat.le_refl _) _))
  have hbe : Below w.heap.size w (w.alloc (.cells #[.int .i64 a, .int .i64 n] 36)) := (Below.refl _ _).alloc (Nat.le_refl _) _
  have hst := OpenI.start h h1 h2 hbe (by simp)
  have hng : ¬ BadArea z a n := by unfold BadArea; omega
  have Hng := Lib.hid hng
  have HL := Lib.hid h.lt
  have g1 : decide ((a : Int) < 0) = false := by simp
  have g2 : decide ((n : Int) < 5) = false := by simp; omega
  have g3 : decide (z < a) = false := by simp; omega
  have g4 : decide ((z : Int) - (a : Int) < (n : Int)) = false := by simp; omega
  have s1 : -9223372036854775808 ≤ (z : Int) - (a : Int) := by omega
  have s2 : (z : Int) - (a : Int) < 9223372036854775808 := by omega
  have hsum : a + n ≤ 4194304 := by omega
  have hc : ((a + n : Nat) : Int) = (a : Int) + (n : Int) := by omega
  rw [hc] at hst
  have Hst := Lib.hid hst
  clear h hbe hst hng hc
  go_enter Tryd.func11, Tryd.ntmps11
  go_wp2_with fail
  refine hsz.mono ?_
  rintro e w1 ⟨rfl, rfl⟩
  go_wp2_with fail
  go_loopg [9] n (fun m s9 wr => ∃ p k A c rows, m = a + n - p ∧ s9 = .slice A k c ∧ p ≤ a + n ∧ (p = a ∨ D.off = false) ∧ OpenI w L (w.heap.size + 1) g D z a n p k A c rows wr)
  case atStart => exact ⟨a, 0, none, 0, [], by omega, rfl, by omega, .inl rfl, Hst.out⟩
  case round =>
    obtain ⟨p, k, A, c, rows, hm, rfl, hpe, hpo, hi⟩ := hrel
    have hpl := fun j => place_any _ (hi.td.drewN j)
    have hpl0 := place_any _ hi.td
    have Hi := Lib.hid hi
    have Hm := Lib.hid hm
    clear hi hm
    by_cases hp5 : p + 5 ≤ a + n
    · have e1 : decide (p + 5 ≤ a + n) = true := by simp [hp5]
      dsimp only at hpl0
      rw [e1] at hpl0
      clear hpl
      go_wp2_with fail
      refine hpl0.mono ?_
      rintro e w2 ⟨rfl, j, rfl⟩
      have hnx := next_any _ (Hi.out.td.drewN j) (by dsimp only; exact hp5)
      have Hnx := Lib.hid hnx
      clear hnx hpl0 e1
      go_wp2_with fail
      refine Hnx.out.mono ?_
      rintro e w3 (⟨ho, rfl, hb3⟩ | ⟨ho, hmk, rfl, hb3⟩ | ⟨ho, hm0, hm1, rfl, hb3⟩ | ⟨ho, hmk, hle, A2, c2, rfl, hr2, hc2, hc3, htd, hkp⟩)
      · have hi3 := Hi.out.below (below_un hb3)
        have hfin : OpenPost w L g D z a n (.returned (.tuple #[.pointer none, .slice none 0 0, .iface 58 (.int .i64 13)])) w3 := ⟨hi3.be, .inr (.inl ⟨Hng.out, ho, rfl⟩)⟩
        have Hfin := Lib.hid hfin
        clear hi3 hfin hb3 Hnx
        go_wp2_with fail
        refine bodyPost_ret (by simp [results, Tryd.results11, go_sem]; rfl) rfl ?_
        exact Hfin.out
      · have hfin := (Hi.out.below (below_un hb3)).fin Hng.out ho (recs_end hmk)
        have Hfin := Lib.hid hfin
        clear hfin hb3 Hnx hmk
        go_wp2_with fail
        refine bodyPost_ret (by simp [results, Tryd.results11, go_sem]; rfl) rfl ?_
        exact Hfin.out
      · have hfin := (Hi.out.below (below_un hb3)).halt Hng.out ho (recs_halt hp5 hm0 hm1)
        have Hfin := Lib.hid hfin
        clear hfin hb3 Hnx hm0 hm1
        go_wp2_with fail
        refine bodyPost_ret (by simp [results, Tryd.results11, go_sem]; rfl) rfl ?_
        exact Hfin.out
      · dsimp only at hr2 hc2 htd hle hmk
        obtain ⟨N, hN⟩ : ∃ N, N = lnAt D.now p := ⟨_, rfl⟩
        dsimp only
        rw [← hN] at hr2 hc2 htd hle ⊢
        have hkp' : Kept (fun b => b = w.heap.size + 1) wr w3 := ⟨hkp.os, hkp.tape, hkp.output, hkp.size, hkp.block⟩
        have hr2' : Rd w3 (wr.heap.size ≤ ·) 1 A2 N (bs (cutAt D.now (p + 5) N)) := hr2
        have hmore := fun A3 c3 w4 => Hi.out.more (w3 := w4) (A3 := A3) (c3 := c3) (t0 := 22) (cc := 0) HL.out hN hmk hle htd hkp' hr2' ⟨hc2, hc3⟩
        have hol := own_lt Hi.out.own
        have hown3 : w3.ownsRow (w.heap.size + 1 + 1) 22 1 (.slice A k c) k (flat brcell rows) := own_kb Hi.out.own fun b hb => hkp'.block b (hol b hb).2 (by have := (hol b hb).1; omega)
        have hown4 := own_below hown3 ((Below.refl _ _).alloc (Nat.le_refl _) (.cells #[.slice A2 N c2] 22))
        have hlit : Rd (w3.alloc (.cells #[.slice A2 N c2] 22)) (w3.heap.size ≤ ·) 1 (some ⟨w3.heap.size, 0, none⟩) 1 [.slice A2 N c2] := Rd.lit (w := w3) (cs := #[.slice A2 N c2]) (t := 22) (fr := (0, 0)) rfl
        have hk5 : k ≤ 4194304 := by
          have := Hi.out.td.ok.n5
          have := Hi.out.td.ok.pe
          have := Hi.out.td.ok.ez
          dsimp only at *
          omega
        have hwz : w.heap.size + 1 + 1 ≤ w3.heap.size + 1 := by
          have h1 := htd.lt
          omega
        have Hmore := Lib.hid hmore
        have Hle := Lib.hid hle
        clear hmore hown3 hol htd hkp hkp' hr2 hr2' hN hmk hc2 hc3 Hnx hle
        go_wp2_with (at_builtin; go_must (refine wpList_append_any _ Tryd.underlying32 bb_elem rfl (by omega) rfl rfl rfl hown4 rfl hlit (by intro u hu; obtain rfl := List.mem_singleton.1 hu; rfl) (by omega) (by simp; omega) rfl rfl ?_); intro A3 c3 w4 hown5 hg5 hat5)
        go_roundg (a + n - (p + 5 + N))
        case measure => have := Hm.out; have := Hle.out; omega
        case rel =>
          exact ⟨p + 5 + N, k + 1, A3, c3, _, rfl, rfl, Hle.out, .inr ho, Hmore.out A3 c3 w4 hown5 hg5 hat5⟩
    · have e1 : decide (p + 5 ≤ a + n) = false := by simp [hp5]
      dsimp only at hpl0
      rw [e1] at hpl0
      clear hpl
      go_wp2_with fail
      refine hpl0.mono ?_
      rintro e w2 ⟨rfl, j, rfl⟩
      have hi3 := Hi.out.below (wr' := wr.drewN j) ⟨rfl, rfl, rfl, Nat.le_refl _, fun _ _ => rfl⟩
      have hfin := hi3.fin Hng.out (by rcases hpo with h | h; omega; exact h) (recs_no hp5)
      have Hfin := Lib.hid hfin
      clear hi3 hfin hpl0 e1 hpo
      go_wp2_with fail
      refine bodyPost_ret (by simp [results, Tryd.results11, go_sem]; rfl) rfl ?_
      exact Hfin.out
theorem open_any (a n : Int) (w : World) (h : DX w L g D z) (ha : I64 a) (hn : I64 n) :
    Calls Tryd.prog 11 #[.pointer (some ⟨g, 0, none⟩), .agg #[.int .i64 a, .int .i64 n]] w (OpenPost w L g D z a n) := by
  by_cases hb : BadArea z a n
  · exact open_bad a n w h ha hn hb
  · unfold BadArea at hb
    obtain ⟨a', rfl⟩ := Int.eq_ofNat_of_zero_le (show 0 ≤ a by omega)
    obtain ⟨n', rfl⟩ := Int.eq_ofNat_of_zero_le (show 0 ≤ n by omega)
    exact open_good a' n' w h (by omega) (by omega)
end
end Go.Proofs.YtijgkejknijplaaDoor
