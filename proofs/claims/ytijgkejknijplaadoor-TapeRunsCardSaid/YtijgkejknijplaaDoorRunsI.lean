/- TapeRuns: what holds from round to round. -/
import Derived.Test.YtijgkejknijplaaDoorBackI
import Derived.Test.YtijgkejknijplaaDoorR4A
import Derived.Test.YtijgkejknijplaaDoorOpens
import Derived.Test.YtijgkejknijplaaDoorNilT
namespace Go.Proofs.YtijgkejknijplaaDoor
open Go.RowKit
set_option linter.unusedVariables false
set_option linter.unusedSimpArgs false
theorem bs_set (l : List UInt8) (i : Nat) (x : UInt8) : bs (l.set i x) = (bs l).set i (.int .u8 (x.toNat : Int)) := by simp [bs, List.map_set]
/-- A tape, beside the area's bytes in a row that is the law's own. -/
structure RunM (w : World) (N g tg : Nat) (t : Tp) (D : Dk) (L : Nat → Prop) (Q : Option Addr) (M c : Nat) (nl : List UInt8) (wr : World) : Prop where
  td : TDX wr L tg g t D N
  own : wr.ownsRow w.heap.size 5 1 (.slice Q M c) M (bs nl)
  oq : ∀ b, Q.map (·.block) = some b → ¬ L b ∧ b ≠ tg
  l0 : ∀ b, L b → w.heap.size ≤ b
  tw : w.heap.size ≤ tg
  be : Below w.heap.size w wr
section
variable {w wr w2 : World} {N g tg M c c' : Nat} {t t' : Tp} {D D' : Dk} {L : Nat → Prop} {Q Q' : Option Addr} {nl nl' : List UInt8}
theorem RunM.below (h : RunM w N g tg t D L Q M c nl wr) (hb : Below wr.heap.size wr w2) : RunM w N g tg t D L Q M c nl w2 := ⟨h.td.below hb, own_below h.own hb, h.oq, h.l0, h.tw, h.be.trans (hb.mono h.be.size)⟩
theorem RunM.aft (h : RunM w N g tg t D L Q M c nl wr) (ha : AftT wr L tg g t' D' N w2) : ∃ L', RunM w N g tg t' D' L' Q M c nl w2 := by
  obtain ⟨L', h1, h2, h3⟩ := ha
  have hs := h.be.size
  have hu : ∀ b, (L b ∨ b = tg) → w.heap.size ≤ b := fun b hb => by
    rcases hb with hb | rfl
    · exact h.l0 b hb
    · exact h.tw
  have hol := own_lt h.own
  refine ⟨L', h1, own_kb h.own (fun b hb => h3.block b (hol b hb).2 fun hu => ?_), fun b hb => ⟨fun hl => ?_, (h.oq b hb).2⟩, fun b hb => ?_, h.tw, h.be.trans (h3.below hu hs)⟩
  · rcases hu with hu | hu
    · exact (h.oq b hb).1 hu
    · exact (h.oq b hb).2 hu
  · rcases h2 b hl with h4 | h4
    · exact (h.oq b hb).1 h4
    · have := (hol b hb).2
      omega
  · rcases h2 b hb with h4 | h4
    · exact h.l0 b h4
    · omega
/-- A byte of the law's own row is another one. -/
theorem RunM.put {b : Nat} (h : RunM w N g tg t D L (some ⟨b, 0, none⟩) M c nl wr) (i : Nat) (x : UInt8) : RunM w N g tg t D L (some ⟨b, 0, none⟩) M c (nl.set i x) (wr.setCell ⟨b, i, none⟩ (.int .u8 (x.toNat : Int))) := by
  have hq := h.oq b rfl
  have hbl := own_lt h.own b rfl
  refine ⟨h.td.keep (fun k hk => Below.heap_setCell _ _ _ k (fun e => ?_)) (by simp [World.setCell]), ?_, h.oq, h.l0, h.tw, h.be.setCell (by show w.heap.size ≤ b; omega) _⟩
  · have e' : k = b := e
    rcases hk with hk | hk
    · exact hq.1 (e' ▸ hk)
    · exact hq.2 (e'.symm.trans hk)
  · rw [bs_set]
    exact (h.own.stored i _).1
/-- Another row in its place. -/
theorem RunM.new (h : RunM w N g tg t D L Q M c nl wr) (hb : Below wr.heap.size wr w2) (ho : w2.ownsRow wr.heap.size 5 1 (.slice Q' M c') M (bs nl')) : RunM w N g tg t D L Q' M c' nl' w2 := by
  have hol := own_lt ho
  have hlt := h.td.dx.lt
  have htl := h.td.lt
  have hs := h.be.size
  exact ⟨h.td.below hb, own_up ho hs, fun b hb => ⟨fun hl => by have := hlt b hl; have := (hol b hb).1; omega, by have := (hol b hb).1; omega⟩, h.l0, h.tw, h.be.trans (hb.mono hs)⟩
end
structure RunP (b : List UInt8) (N M : Nat) (t : Tp) (D : Dk) (E k : Nat) (nl : List UInt8) : Prop where
  calm : D.Calm N
  armed : D.armed = 0
  t0 : t.fr = 1
  t1 : t.en = 1 + M
  t2 : t.dead = 0
  tp : t.p = 1 + E
  tn : t.n = k
  img : nl = cutAt D.now 1 M
  b0 : D.now[0]? = b[0]?
  b1 : D.now[N - 1]? = b[N - 1]?
  hN : N = M + 2
section
variable {b : List UInt8} {N M E k : Nat} {t : Tp} {D : Dk} {nl x : List UInt8}
theorem outL_shift (E M : Nat) (x : List UInt8) : outL (1 + E) (1 + M) x = outL E M x := by
  unfold outL
  have : (1 + E + 5 + x.length + 5 ≤ 1 + M) ↔ (E + 5 + x.length + 5 ≤ M) := by omega
  simp only [this]
theorem RunP.fits (h : RunP b N M t D E k nl) (hok : t.Ok N) (hx : x.length ≤ 1000) (hf : E + 5 + x.length ≤ M) : ∃ t' D', t.append D x = (t', D', 0) ∧ RunP b N M t' D' (E + 5 + x.length) (k + 1) (splice nl E (1 :: outL E M x)) := by
  have hlen := h.calm.wrote_len
  have hN := h.hN
  rcases append_cases (b := x) h.calm h.t2 (by omega) (by rw [h.t1, h.tp]; omega) hok.ez with ⟨D', e1, k1, k2, k3⟩ | ⟨h0, -⟩
  · rw [Tp.outL, h.t1, h.tp, outL_shift] at k2
    have hol := outL_len E M x
    have hfit : E + (1 :: outL E M x).length ≤ M := by
      rw [List.length_cons, hol]
      split <;> omega
    refine ⟨_, D', e1, k1, k3 h.armed, h.t0, h.t1, h.t2, ?_, ?_, ?_, ?_, ?_, hN⟩
    · show t.p + 5 + x.length = 1 + (E + 5 + x.length)
      rw [h.tp]
      omega
    · show t.n + 1 = k + 1
      rw [h.tn]
    · rw [k2, cut_splice hfit (by omega), h.img]
    · rw [k2, splice_off (by omega) (by omega), h.b0]
    · rw [k2, splice_off (by omega) (by omega), h.b1]
  · exact absurd h.armed h0
theorem RunP.full (h : RunP b N M t D E k nl) (hx : x.length ≤ 1000) (hf : ¬ E + 5 + x.length ≤ M) : t.append D x = (t, D, 10) :=
  append_full h.t2 (by omega) (by rw [h.t1, h.tp]; omega)
theorem RunP.reset (h : RunP b N M t D E k nl) (hM : 5 ≤ M) : ∃ t' D', t.reset D = (t', D', 0) ∧ RunP b N M t' D' 0 0 (nl.set 0 0) := by
  have hlen := h.calm.wrote_len
  have hN := h.hN
  rcases reset_cases (t := t) h.calm h.t2 (by rw [h.t0]; omega) with ⟨D', e1, k1, k2, k3⟩ | ⟨h0, -⟩
  · rw [h.t0] at k2
    refine ⟨_, D', e1, k1, k3 h.armed, h.t0, h.t1, h.t2, h.t0, rfl, ?_, ?_, ?_, hN⟩
    · rw [k2, show (1 : Nat) = 1 + 0 from rfl, cut_splice (q := 0) (by simp; omega) (by omega), ← h.img]
      have hnl : nl.length = M := by rw [h.img]; exact cut_len (by omega)
      unfold splice
      cases nl with
      | nil => simp at hnl; omega
      | cons a nl => simp
    · rw [k2, splice_off (by simp; omega) (by simp), h.b0]
    · rw [k2, splice_off (by simp; omega) (by simp; omega), h.b1]
  · exact absurd h.armed h0
theorem RunP.room (h : RunP b N M t D E k nl) : t.room = roomL M E := by
  unfold Tp.room roomL
  rw [h.t1, h.tp]
  by_cases h1 : E + 5 ≤ M
  · rw [if_pos (by omega), if_pos h1]
    omega
  · rw [if_neg (by omega), if_neg h1]
end
def AllRead (W : World) (D : Dk) (n : Nat) (e : Ending) (w' : World) : Prop := ∃ A c, e = .returned (.tuple #[.slice A n c, .nilIface]) ∧ w'.ownsRow W.heap.size 5 1 (.slice A n c) n (bs D.now) ∧ Below W.heap.size W w'
/-- All of a disk is read. -/
theorem read_all {L : Nat → Prop} {g n : Nat} {D : Dk} (w : World) (h : DX w L g D n) (hc : D.Calm n) (hn : n ≤ 600) :
    Calls Tryd.prog 21 #[.pointer (some ⟨g, 0, none⟩), .int .i64 0, .int .i64 (n : Nat)] w (AllRead w D n) := by
  have hlen := hc.wrote_len
  have hrd0 : D.read 0 (n : Nat) = (D.now, 0) := by
    have h1 := Dk.read_yes (D := D) (z := n) (p := 0) (n := n) hc.ok hc.off (by omega)
    have h2 : cutAt D.now 0 n = D.now := by unfold cutAt; rw [List.drop_zero, List.take_of_length_le (by omega)]
    rw [h2] at h1
    exact h1
  have hrd := read_own 0 (n : Nat) w h (by unfold I64; omega) (by unfold I64; omega)
  rw [hrd0] at hrd
  refine hrd.mono ?_
  rintro e w' ⟨A, c, h1, h2, h3⟩
  dsimp only at h1 h2
  rw [errD_nil, hlen] at h1
  rw [hlen] at h2
  exact ⟨A, c, h1, h2, h3⟩
end Go.Proofs.YtijgkejknijplaaDoor
