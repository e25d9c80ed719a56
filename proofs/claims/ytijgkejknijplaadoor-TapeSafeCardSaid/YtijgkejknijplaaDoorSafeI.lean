/- TapeSafe: what holds from round to round. -/
import Derived.Test.YtijgkejknijplaaDoorSure
import Derived.Test.YtijgkejknijplaaDoorR4
import Derived.Test.YtijgkejknijplaaDoorTpC
import Derived.Test.YtijgkejknijplaaDoorBackI
namespace Go.Proofs.YtijgkejknijplaaDoor
open Go.RowKit
set_option linter.unusedVariables false
set_option linter.unusedSimpArgs false
/-- A tape on a disk, beside a row of rows that is the law's own, and the box of the area. -/
structure TapI (w : World) (AB z g tg : Nat) (t : Tp) (D : Dk) (L : Nat → Prop) (Q : Option Addr) (k c : Nat) (rows : List Br) (wr : World) : Prop where
  td : TDX wr L tg g t D z
  own : wr.ownsRow w.heap.size 22 1 (.slice Q k c) k (flat brcell rows)
  oq : ∀ b, Q.map (·.block) = some b → ¬ L b ∧ b ≠ tg ∧ b ≠ AB
  dat : ∀ x ∈ rows, Rd wr (fun b => b < w.heap.size) 1 x.A x.n (bs x.d)
  l0 : ∀ b, L b → w.heap.size ≤ b
  tw : w.heap.size ≤ tg
  be : Below w.heap.size w wr
  ab : Bx wr AB #[.int .i64 10, .int .i64 250]
  al : ¬ L AB
  at_ : AB ≠ tg
  a0 : w.heap.size ≤ AB
section
variable {w wr w2 w3 : World} {AB z g tg tg' : Nat} {t t' : Tp} {D D' : Dk} {L : Nat → Prop} {Q Q' : Option Addr} {k c c' : Nat} {rows : List Br}
theorem TapI.len (h : TapI w AB z g tg t D L Q k c rows wr) : rows.length = k := Rd.flen (w := wr) brcell_len (by omega) (Rd.of_own h.own)
theorem TapI.below (h : TapI w AB z g tg t D L Q k c rows wr) (hb : Below wr.heap.size wr w2) : TapI w AB z g tg t D L Q k c rows w2 :=
  ⟨h.td.below hb, own_below h.own hb, h.oq, fun x hx => (h.dat x hx).below hb, h.l0, h.tw, h.be.trans (hb.mono h.be.size), h.ab.below hb, h.al, h.at_, h.a0⟩
theorem TapI.brt (h : TapI w AB z g tg t D L Q k c rows wr) : BRT wr Q k rows := ⟨(Rd.of_own h.own).any, fun x hx => (h.dat x hx).any⟩
/-- Behind a call at the tape. -/
theorem TapI.aft (h : TapI w AB z g tg t D L Q k c rows wr) (ha : AftT wr L tg g t' D' z w2) : ∃ L', TapI w AB z g tg t' D' L' Q k c rows w2 := by
  obtain ⟨L', h1, h2, h3⟩ := ha
  have hs := h.be.size
  have hu : ∀ b, (L b ∨ b = tg) → w.heap.size ≤ b := fun b hb => by
    rcases hb with hb | rfl
    · exact h.l0 b hb
    · exact h.tw
  have hol := own_lt h.own
  have habl := h.ab.lt
  refine ⟨L', h1, own_kb h.own (fun b hb => h3.block b (hol b hb).2 fun hu => ?_), fun b hb => ⟨fun hl => ?_, (h.oq b hb).2⟩, fun x hx => (h.dat x hx).keep fun b hb hlt => h3.block b hlt fun hu' => ?_, fun b hb => ?_, h.tw, h.be.trans (h3.below hu hs), h3.bx h.ab ?_, fun hl => ?_, h.at_, h.a0⟩
  · rcases hu with hu | hu
    · exact (h.oq b hb).1 hu
    · exact (h.oq b hb).2.1 hu
  · rcases h2 b hl with h4 | h4
    · exact (h.oq b hb).1 h4
    · have := (hol b hb).2
      omega
  · have := hu b hu'
    omega
  · rcases h2 b hb with h4 | h4
    · exact h.l0 b h4
    · omega
  · rintro (h4 | h4)
    · exact h.al h4
    · exact h.at_ h4
  · rcases h2 _ hl with h4 | h4
    · exact h.al h4
    · omega
/-- Behind a call at the disk. -/
theorem TapI.disk (h : TapI w AB z g tg t D L Q k c rows wr) (ha : Aft wr L g D' z w2) : ∃ L', TapI w AB z g tg t D' L' Q k c rows w2 := by
  obtain ⟨L', h1, h2, h3⟩ := h.td.aft ha
  exact h.aft ⟨L', h1, h2, h3.or⟩
/-- A new tape. -/
theorem TapI.open_ (h : TapI w AB z g tg t D L Q k c rows wr) (hb : Below wr.heap.size wr w2) (ht : wr.heap.size ≤ tg') (h2 : TDX w2 L tg' g t' D z) : TapI w AB z g tg' t' D L Q k c rows w2 := by
  have hol := own_lt h.own
  have hs := h.be.size
  have habl := h.ab.lt
  exact ⟨h2, own_below h.own hb, fun b hb => ⟨(h.oq b hb).1, by have := (hol b hb).2; omega, (h.oq b hb).2.2⟩, fun x hx => (h.dat x hx).below hb, h.l0, by omega, h.be.trans (hb.mono hs), h.ab.below hb, h.al, by omega, h.a0⟩
/-- Nothing in the law's own row. -/
theorem TapI.clear (h : TapI w AB z g tg t D L Q k c rows wr) : TapI w AB z g tg t D L none 0 0 [] wr :=
  ⟨h.td, own_nil _ _ _ _ _ rfl, (fun b hb => by cases hb), (fun x hx => (List.not_mem_nil hx).elim), h.l0, h.tw, h.be, h.ab, h.al, h.at_, h.a0⟩
/-- One row more. -/
theorem TapI.more {y : Br} (h : TapI w AB z g tg t D L Q k c rows w2) (hy : Rd w (fun b => b < w.heap.size) 1 y.A y.n (bs y.d)) {t0 : TypeId} (hown : w3.ownsRow w.heap.size 22 1 (.slice Q' (k + 1) c') (k + 1) (flat brcell rows ++ [.slice y.A y.n y.m])) (hg : (w2.alloc (.cells #[.slice y.A y.n y.m] t0)).grownBy w3 (Q.map (·.block))) (hat : Q'.map (·.block) = Q.map (·.block) ∨ Q'.map (·.block) = some (w2.alloc (.cells #[.slice y.A y.n y.m] t0)).heap.size) :
    TapI w AB z g tg t D L Q' (k + 1) c' (rows ++ [y]) w3 := by
  have hs : (w2.alloc (.cells #[.slice y.A y.n y.m] t0)).heap.size = w2.heap.size + 1 := by simp
  have hol := own_lt h.own
  have hdlt := h.td.dx.lt
  have htl := h.td.lt
  have hws := h.be.size
  have habl := h.ab.lt
  have hkk : ∀ b, b < w2.heap.size → Q.map (·.block) ≠ some b → w3.heap[b]? = w2.heap[b]? := fun b hb hne => (hg.block b (by omega) (fun e => hne e.symm)).trans (Below.heap_alloc w2 _ b hb)
  have hbe : Below w.heap.size w w3 := h.be.trans ⟨hg.os, hg.tape, hg.output, Nat.le_trans (by omega) hg.size, fun i hi => hkk i (by omega) fun e => by have := (hol i e).1; omega⟩
  refine ⟨h.td.keep (fun b hb => hkk b ?_ ?_) (Nat.le_trans (by omega) hg.size), ?_, ?_, ?_, h.l0, h.tw, hbe, h.ab.keep (hkk AB habl fun e => (h.oq AB e).2.2 rfl), h.al, h.at_, h.a0⟩
  · rcases hb with hb | rfl
    · exact hdlt b hb
    · exact htl
  · intro e
    have h1 := h.oq b e
    rcases hb with hb | rfl
    · exact h1.1 hb
    · exact h1.2.1 rfl
  · rw [flat_append, flat_one]
    exact hown
  · intro b hb
    rcases hat with e | e
    · exact h.oq b (e ▸ hb)
    · rw [hb] at e
      injection e with e
      refine ⟨fun hl => ?_, by omega, by omega⟩
      have := hdlt b hl
      omega
  · intro x hx
    rcases List.mem_append.1 hx with hx | hx
    · exact (h.dat x hx).keep fun b hb hlt => hkk b hlt fun e => by have := (hol b e).1; omega
    · obtain rfl := List.mem_singleton.1 hx
      exact hy.keep fun b hb _ => hbe.block b hb
end
/-- The plain part: what the tape is like ahead of each round. -/
structure SafeP (fr en z : Nat) (t : Tp) (D : Dk) (news : List (List UInt8)) : Prop where
  calm : D.Calm z
  t0 : t.fr = fr
  t1 : t.en = en
  t2 : t.dead = 0
  rec_ : recs D.now fr en = (news, t.p, false)
section
variable {fr en z : Nat} {t : Tp} {D D' : Dk} {news : List (List UInt8)} {x : List UInt8}
theorem SafeP.arm (h : SafeP fr en z t D news) (K : Nat) (hK : K ≤ 1000) : (D.arm (K : Nat)).2 = 0 ∧ SafeP fr en z t (D.arm (K : Nat)).1 news := by
  unfold Dk.arm
  rw [if_neg (by omega), if_pos (by omega)]
  exact ⟨rfl, ⟨⟨h.calm.ok.safe, h.calm.ok.fit, h.calm.ok.now, by dsimp only; omega, by dsimp only; omega⟩, h.calm.off, h.calm.q⟩, h.t0, h.t1, h.t2, h.rec_⟩
/-- What comes of an Append. -/
theorem SafeP.append (h : SafeP fr en z t D news) (hok : t.Ok z) (hx : x.length ≤ 1048576) (hr : t.p + 5 + x.length ≤ en) :
    (∃ t' D', t.append D x = (t', D', 0) ∧ SafeP fr en z t' D' (news ++ [x])) ∨
    (∃ t' D', t.append D x = (t', D', 13) ∧ t'.dead = 13 ∧ Cut D' z fun l => ∃ p, recs l fr en = (news, p, false) ∨ recs l fr en = (news ++ [x], p, false)) := by
  have hlen := h.calm.wrote_len
  have hez := hok.ez
  have ht0 := h.t0
  have ht1 := h.t1
  have hrec := h.rec_
  have hput := fun hrec => recs_put (l := D.now) (t := t) (b := x) (rs := news) hrec hx (by rw [ht1]; exact hr) (by rw [hlen]; exact hez)
  rw [ht0, ht1] at hput
  have hol := t.out_len x
  rcases append_cases (b := x) h.calm h.t2 hx (by rw [ht1]; exact hr) hez with ⟨D', e1, k1, k2, k3⟩ | ⟨-, D', e1, k1⟩
  · left
    exact ⟨_, D', e1, ⟨k1, ht0, ht1, h.t2, by rw [k2]; exact hput hrec⟩⟩
  · right
    refine ⟨_, D', e1, rfl, k1.ok, k1.off, k1.q, fun keep => ?_⟩
    rcases k1.st keep with ⟨k, hk, e⟩ | e
    · refine ⟨t.p, .inl ?_⟩
      show recs (D'.started keep).now fr en = _
      rw [e]
      refine recs_part hrec ?_
      rw [List.length_take, hlen]
      have := Nat.min_le_left k (t.out x).length
      rw [ht1] at hol hez
      split at hol <;> omega
    · refine ⟨t.p + 5 + x.length, .inr ?_⟩
      show recs (D'.started keep).now fr en = _
      rw [e]
      exact hput hrec
/-- What comes of a Reset. -/
theorem SafeP.reset (h : SafeP fr en z t D news) (hok : t.Ok z) (hf : fr + 1 ≤ z) :
    (∃ t' D', t.reset D = (t', D', 0) ∧ SafeP fr en z t' D' []) ∨
    (∃ t' D', t.reset D = (t', D', 13) ∧ t'.dead = 13 ∧ Cut D' z fun l => ∃ p, recs l fr en = (news, p, false) ∨ recs l fr en = ([], p, false)) := by
  have hlen := h.calm.wrote_len
  have ht0 := h.t0
  have hrec := h.rec_
  have hcl : recs (splice D.now t.fr [0]) fr en = ([], fr, false) := by rw [ht0]; exact recs_cleared (by omega)
  rcases reset_cases (t := t) h.calm h.t2 (by omega) with ⟨D', e1, k1, k2, k3⟩ | ⟨-, D', e1, k1⟩
  · left
    exact ⟨_, D', e1, ⟨k1, ht0, h.t1, h.t2, by rw [k2]; show recs _ fr en = ([], t.fr, false); rw [hcl, ht0]⟩⟩
  · right
    refine ⟨_, D', e1, rfl, k1.ok, k1.off, k1.q, fun keep => ?_⟩
    rcases k1.st keep with e | e
    · exact ⟨t.p, .inl (by show recs (D'.started keep).now fr en = _; rw [e]; exact hrec)⟩
    · exact ⟨fr, .inr (by show recs (D'.started keep).now fr en = _; rw [e]; exact hcl)⟩
theorem room_len (t : Tp) (n : Nat) : decide (t.room < (n : Int)) = decide (¬ t.p + 5 + n ≤ t.en) := by
  apply Bool.eq_iff_iff.2
  simp only [decide_eq_true_eq]
  unfold Tp.room
  split <;> omega
end
end Go.Proofs.YtijgkejknijplaaDoor
