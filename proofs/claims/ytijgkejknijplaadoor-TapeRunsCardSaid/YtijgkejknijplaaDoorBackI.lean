/- TapeBack: what holds from round to round. -/
import Derived.Test.YtijgkejknijplaaDoorSure
import Derived.Test.YtijgkejknijplaaDoorR4
import Derived.Test.YtijgkejknijplaaDoorTpC
namespace Go.Proofs.YtijgkejknijplaaDoor
open Go.RowKit
set_option linter.unusedVariables false
set_option linter.unusedSimpArgs false
/-- A tape that lives on a calm disk, beside a row of rows that is the law's own. -/
structure BackI (w : World) (z fr en : Nat) (g tg : Nat) (t : Tp) (D : Dk) (L : Nat → Prop) (Q : Option Addr) (k c : Nat) (rows : List Br) (wr : World) : Prop where
  td : TDX wr L tg g t D z
  calm : D.Calm z
  t0 : t.fr = fr
  t1 : t.en = en
  t2 : t.dead = 0
  rec_ : recs D.now fr en = (rows.map Br.d, t.p, false)
  n : t.n = k
  own : wr.ownsRow w.heap.size 22 1 (.slice Q k c) k (flat brcell rows)
  oq : ∀ b, Q.map (·.block) = some b → ¬ L b ∧ b ≠ tg
  dat : ∀ x ∈ rows, Rd wr (fun b => b < w.heap.size) 1 x.A x.n (bs x.d)
  l0 : ∀ b, L b → w.heap.size ≤ b
  tw : w.heap.size ≤ tg
  be : Below w.heap.size w wr
section
variable {w wr w2 w3 : World} {z fr en g tg : Nat} {t t' : Tp} {D D' : Dk} {L : Nat → Prop} {Q Q' : Option Addr} {k c c' : Nat} {rows : List Br}
theorem BackI.len (h : BackI w z fr en g tg t D L Q k c rows wr) : rows.length = k := Rd.flen (w := wr) brcell_len (by omega) (Rd.of_own h.own)
theorem BackI.below (h : BackI w z fr en g tg t D L Q k c rows wr) (hb : Below wr.heap.size wr w2) : BackI w z fr en g tg t D L Q k c rows w2 :=
  ⟨h.td.below hb, h.calm, h.t0, h.t1, h.t2, h.rec_, h.n, own_below h.own hb, h.oq, fun x hx => (h.dat x hx).below hb, h.l0, h.tw, h.be.trans (hb.mono h.be.size)⟩
/-- Behind a call at the tape that leaves what is on it. -/
theorem BackI.same (h : BackI w z fr en g tg t D L Q k c rows wr) (ha : AftT wr L tg g t D z w2) : ∃ L', BackI w z fr en g tg t D L' Q k c rows w2 := by
  obtain ⟨L', h1, h2, h3⟩ := ha
  have hs := h.be.size
  have hu : ∀ b, (L b ∨ b = tg) → w.heap.size ≤ b := fun b hb => by
    rcases hb with hb | rfl
    · exact h.l0 b hb
    · exact h.tw
  have hol := own_lt h.own
  refine ⟨L', h1, h.calm, h.t0, h.t1, h.t2, h.rec_, h.n, own_kb h.own (fun b hb => h3.block b (hol b hb).2 fun hu => ?_), fun b hb => ⟨fun hl => ?_, (h.oq b hb).2⟩, fun x hx => (h.dat x hx).keep fun b hb hlt => h3.block b hlt fun hu' => ?_, fun b hb => ?_, h.tw, h.be.trans (h3.below hu hs)⟩
  · rcases hu with hu | hu
    · exact (h.oq b hb).1 hu
    · exact (h.oq b hb).2 hu
  · rcases h2 b hl with h4 | h4
    · exact (h.oq b hb).1 h4
    · have := (hol b hb).2
      omega
  · have := hu b hu'
    omega
  · rcases h2 b hb with h4 | h4
    · exact h.l0 b h4
    · omega
/-- Behind the append of a record, ahead of the law's own. -/
structure BackS (w : World) (z fr en : Nat) (g tg : Nat) (t : Tp) (D : Dk) (L : Nat → Prop) (Q : Option Addr) (k c : Nat) (rows : List Br) (x : List UInt8) (wr : World) : Prop where
  td : TDX wr L tg g { t with p := t.p + 5 + x.length, n := t.n + 1 } D z
  calm : D.Calm z
  t0 : t.fr = fr
  t1 : t.en = en
  t2 : t.dead = 0
  rec_ : recs D.now fr en = (rows.map Br.d ++ [x], t.p + 5 + x.length, false)
  n : t.n = k
  own : wr.ownsRow w.heap.size 22 1 (.slice Q k c) k (flat brcell rows)
  oq : ∀ b, Q.map (·.block) = some b → ¬ L b ∧ b ≠ tg
  dat : ∀ x ∈ rows, Rd wr (fun b => b < w.heap.size) 1 x.A x.n (bs x.d)
  l0 : ∀ b, L b → w.heap.size ≤ b
  tw : w.heap.size ≤ tg
  be : Below w.heap.size w wr
theorem BackI.put (h : BackI w z fr en g tg t D L Q k c rows wr) {x : List UInt8} (hx : x.length ≤ 1048576) (hr : t.p + 5 + x.length ≤ t.en) (hc : D'.Calm z) (hn : D'.now = splice D.now t.p (1 :: t.out x)) (ha : AftT wr L tg g { t with p := t.p + 5 + x.length, n := t.n + 1 } D' z w2) : ∃ L', BackS w z fr en g tg t D' L' Q k c rows x w2 := by
  obtain ⟨L', h1, h2, h3⟩ := ha
  have hs := h.be.size
  have hu : ∀ b, (L b ∨ b = tg) → w.heap.size ≤ b := fun b hb => by
    rcases hb with hb | rfl
    · exact h.l0 b hb
    · exact h.tw
  have hol := own_lt h.own
  have hrec := h.rec_
  rw [← h.t0, ← h.t1] at hrec
  have hput := recs_put hrec hx hr (by rw [h.calm.wrote_len]; exact h.td.ok.ez)
  rw [← hn, h.t0, h.t1] at hput
  refine ⟨L', h1, hc, h.t0, h.t1, h.t2, hput, h.n, own_kb h.own (fun b hb => h3.block b (hol b hb).2 fun hu => ?_), fun b hb => ⟨fun hl => ?_, (h.oq b hb).2⟩, fun x hx => (h.dat x hx).keep fun b hb hlt => h3.block b hlt fun hu' => ?_, fun b hb => ?_, h.tw, h.be.trans (h3.below hu hs)⟩
  · rcases hu with hu | hu
    · exact (h.oq b hb).1 hu
    · exact (h.oq b hb).2 hu
  · rcases h2 b hl with h4 | h4
    · exact (h.oq b hb).1 h4
    · have := (hol b hb).2
      omega
  · have := hu b hu'
    omega
  · rcases h2 b hb with h4 | h4
    · exact h.l0 b h4
    · omega
theorem BackS.below {x : List UInt8} (h : BackS w z fr en g tg t D L Q k c rows x wr) (hb : Below wr.heap.size wr w2) : BackS w z fr en g tg t D L Q k c rows x w2 :=
  ⟨h.td.below hb, h.calm, h.t0, h.t1, h.t2, h.rec_, h.n, own_below h.own hb, h.oq, fun x hx => (h.dat x hx).below hb, h.l0, h.tw, h.be.trans (hb.mono h.be.size)⟩
/-- The law's own row has it too. -/
theorem BackS.more {y : Br} (h : BackS w z fr en g tg t D L Q k c rows y.d w2) (hy : Rd w (fun b => b < w.heap.size) 1 y.A y.n (bs y.d)) {t0 : TypeId} (hown : w3.ownsRow w.heap.size 22 1 (.slice Q' (k + 1) c') (k + 1) (flat brcell rows ++ [.slice y.A y.n y.m])) (hg : (w2.alloc (.cells #[.slice y.A y.n y.m] t0)).grownBy w3 (Q.map (·.block))) (hat : Q'.map (·.block) = Q.map (·.block) ∨ Q'.map (·.block) = some (w2.alloc (.cells #[.slice y.A y.n y.m] t0)).heap.size) :
    BackI w z fr en g tg { t with p := t.p + 5 + y.d.length, n := t.n + 1 } D L Q' (k + 1) c' (rows ++ [y]) w3 := by
  have hs : (w2.alloc (.cells #[.slice y.A y.n y.m] t0)).heap.size = w2.heap.size + 1 := by simp
  have hol := own_lt h.own
  have hdlt := h.td.dx.lt
  have htl := h.td.lt
  have hws := h.be.size
  have hkk : ∀ b, b < w2.heap.size → Q.map (·.block) ≠ some b → w3.heap[b]? = w2.heap[b]? := fun b hb hne => (hg.block b (by omega) (fun e => hne e.symm)).trans (Below.heap_alloc w2 _ b hb)
  have hbe : Below w.heap.size w w3 := h.be.trans ⟨hg.os, hg.tape, hg.output, Nat.le_trans (by omega) hg.size, fun i hi => hkk i (by omega) fun e => by have := (hol i e).1; omega⟩
  refine ⟨h.td.keep (fun b hb => hkk b ?_ ?_) (Nat.le_trans (by omega) hg.size), h.calm, h.t0, h.t1, h.t2, ?_, ?_, ?_, ?_, ?_, h.l0, h.tw, hbe⟩
  · rcases hb with hb | rfl
    · exact hdlt b hb
    · exact htl
  · intro e
    have h1 := h.oq b e
    rcases hb with hb | rfl
    · exact h1.1 hb
    · exact h1.2 rfl
  · rw [List.map_append]
    exact h.rec_
  · show t.n + 1 = k + 1
    rw [h.n]
  · rw [flat_append, flat_one]
    exact hown
  · intro b hb
    rcases hat with e | e
    · exact h.oq b (e ▸ hb)
    · rw [hb] at e
      injection e with e
      refine ⟨fun hl => ?_, by omega⟩
      have := hdlt b hl
      omega
  · intro x hx
    rcases List.mem_append.1 hx with hx | hx
    · exact (h.dat x hx).keep fun b hb hlt => hkk b hlt fun e => by have := (hol b e).1; omega
    · obtain rfl := List.mem_singleton.1 hx
      exact hy.keep fun b hb _ => hbe.block b hb
end
end Go.Proofs.YtijgkejknijplaaDoor
