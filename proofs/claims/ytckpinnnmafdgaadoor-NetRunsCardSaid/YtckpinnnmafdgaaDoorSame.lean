/- Walk of the law's same. -/
import Derived.Test.YtckpinnnmafdgaaDoorRStep
import Derived.Test.YtckpinnnmafdgaaDoorSure
namespace Go.Proofs.YtckpinnnmafdgaaDoor
open Go.RowKit
set_option maxRecDepth 100000
set_option linter.unusedVariables false
set_option linter.unusedSimpArgs false
def SameP (W : World) (e : Ending) (w' : World) : Prop := e = .returned (.bool true) ∧ Below W.heap.size W w'
theorem pl_inj {x y : Ic} (h : pl x = pl y) : x.id = y.id ∧ x.fr = y.fr ∧ x.to = y.to ∧ x.d = y.d := by
  unfold pl at h
  injection h with h1 h
  injection h with h2 h
  injection h with h3 h4
  exact ⟨h1, h2, h3, h4⟩
set_option maxHeartbeats 3200000 in
theorem same_any (n : Nn) (p : Ps) (lim : Int) (r : Rn) (w : World) {ok : Nat → Prop} (h : NV w n p) (hr : RV w ok lim r p) :
    Calls Tryd.prog 20 #[.pointer (some ⟨n.g, 0, none⟩), rnA r] w (SameP w) := by
  have hln := hr.len
  have hnl := h.len
  have hlm := h.lm
  have hnm := h.nm
  have hrl := hr.rn
  have hmap : n.l.map pl = r.l.map pl := h.li.trans hr.li.symm
  have hit := fun W (hb : Below w.heap.size w W) => items_any n.g n.gm n.lim n.last n.cnt n.f n.A n.nl n.cl n.l W (h.below hb).ni.ns (h.below hb).ni.data (by omega)
  have hlen := fun W (hb : Below w.heap.size w W) => len_any n.g n.gm n.lim n.last n.cnt n.f n.A n.nl n.cl (flat icell n.l) W (h.below hb).ni.ns
  have hll := h.ni.len
  obtain ⟨rlim, last, LA, ln, lc, l, CA, cn, cc, cuts⟩ := r
  unfold rnA
  dsimp only at hln hrl hmap ⊢
  obtain ⟨W0, hW0⟩ : ∃ W0, W0 = w.alloc (.cells #[.int .i64 rlim, .int .i64 last, .slice LA ln lc, .slice CA cn cc] 46) := ⟨_, rfl⟩
  have b0 : Bx W0 w.heap.size #[.int .i64 rlim, .int .i64 last, .slice LA ln lc, .slice CA cn cc] := by subst hW0; exact Bx.new _ _ _ rfl
  have hbe : Below w.heap.size w W0 := by subst hW0; exact (Below.refl _ _).alloc (Nat.le_refl _) _
  have Hit := Lib.hid hit
  have Hlen := Lib.hid hlen
  have B0 := Lib.hid b0
  have Hbe := Lib.hid hbe
  have HW := Lib.hid hW0
  have Hrl := Lib.hid hrl
  have Hmap := Lib.hid hmap
  have Hll := Lib.hid hll
  have Hnl := Lib.hid hnl
  have Hln := Lib.hid hln
  have hnn : n.nl = ln := by omega
  have Hnn := Lib.hid hnn
  have hnlm : n.nl ≤ 4096 := by omega
  clear hit hlen b0 hbe hW0 hrl hmap hll hnl hln hr h hnn
  go_enter Tryd.func20, Tryd.ntmps20
  go_wp2_with fail
  rw [← HW.out]
  refine (Hit.out _ Hbe.out).mono ?_
  rintro e w1 ⟨A', c', l', rfl, hrd, hmp, hdt, hb1⟩
  have hbw1 := Hbe.out.trans (hb1.mono Hbe.out.size)
  have b1 := B0.out.below hb1
  have hl'len : l'.length = n.nl := by
    have := congrArg List.length hmp
    rw [List.length_map, List.length_map] at this
    rw [this, Hll.out]
  have hmm : l'.map pl = l.map pl := hmp.trans Hmap.out
  rw [Hll.out, Hnn.out] at hrd ⊢
  rw [Hnn.out] at hl'len
  obtain ⟨k0, k1, k2, k3, -⟩ := b1.c4
  have hle := fun j => (Hlen.out (w1.drewN j) (below_drewN hbw1 j)).mono (R' := fun e w' => e = .returned (.int .i64 (ln : Nat)) ∧ w' = w1.drewN j) (fun e w' h => ⟨by rw [h.1, Hnn.out], h.2.symm⟩)
  have Hle := Lib.hid hle
  have hq := fun (W : World) => (rfl : (1 : Nat) = 1)
  have Hrd := Lib.hid hrd
  have Hmm := Lib.hid hmm
  have Hdt := Lib.hid hdt
  have Hbw1 := Lib.hid hbw1
  have hc1 := Hrl.out.below hbw1
  have Hc1 := Lib.hid hc1
  have Hl' := Lib.hid hl'len
  have hln4 : ln ≤ 4096 := by have := Hnn.out; omega
  have hneq : ((ln : Int) != (ln : Int)) = false := by simp
  clear hrd hmm hdt hb1 b1 hmp hbw1 hle hc1 hl'len hq
  go_wp2_with fail
  go_quiet (first | (go_at_call 12; exact Calls.quiet_of_same (Hle.out _)))
  go_wp2_with fail
  go_loopg [6] ln (fun mu s6 wr => ∃ k j, mu = ln - k ∧ k ≤ ln ∧ s6 = .int .i64 (k : Nat) ∧ wr = w1.drewN j)
  case atStart => exact ⟨0, _, by omega, by omega, rfl, rfl⟩
  case round =>
    obtain ⟨k, jw, hmu, hk, rfl, rfl⟩ := hrel
    have Hmu := Lib.hid hmu
    clear hmu
    by_cases hlt : k < ln
    · obtain ⟨xb, xo, x, hxA, -, -, hx, x0, x1, x2, x3⟩ := ic_cells Hrd.out hlt
      obtain ⟨yb, yo, y, hyA, -, -, hy, y0, y1, y2, y3⟩ := ic_cells Hc1.out.it hlt
      dsimp only at hyA hy
      subst hxA hyA
      have hpe : pl x = pl y := by
        have h1 := congrArg (fun L => L[k]?) Hmm.out
        simp only [List.getElem?_map, hx, hy, Option.map_some, Option.some.injEq] at h1
        exact h1
      obtain ⟨e1, e2, e3, e4⟩ := pl_inj hpe
      rw [← e1] at y0
      rw [← e2] at y1
      rw [← e3] at y2
      have hcx := fun j => conv_bytes (P := Tryd.prog) (c := x.c) 30 9 5 Tryd.underlying30 Tryd.underlying5 Tryd.underlying9 ((Hdt.out x (List.mem_of_getElem? hx)).drewN j)
      have hcy := fun j => conv_bytes (P := Tryd.prog) (c := y.c) 30 9 5 Tryd.underlying30 Tryd.underlying5 Tryd.underlying9 ((Hc1.out.dt y (List.mem_of_getElem? hy)).1.drewN j)
      rw [← e4] at hcy
      have hkI : (k : Int) < ln := by omega
      have hk0 : (0 : Int) ≤ k := by omega
      clear hpe e1 e2 e3 e4 hx hy
      go_wp2_with fail
      go_upto_region 7 with (fail)
      go_cut [84] (fun s84 W => s84 = .bool false ∧ ∃ j, W = w1.drewN j)
      case first =>
        go_quiet (fail)
        go_wp2_with fail
        go_meet
        case rel => exact ⟨rfl, jw + nq, by simp [World.drewN_drewN]⟩
      case rest =>
        obtain ⟨rfl, j2, rfl⟩ := hcut
        clear hcx hcy x0 x1 x2 x3 y0 y1 y2 y3
        go_wp2_with fail
        go_roundg (ln - (k + 1))
        case measure => have := Hmu.out; omega
        case rel => exact ⟨k + 1, j2, rfl, by omega, by go_num, rfl⟩
    · have hd : decide ((k : Int) < (ln : Int)) = false := by simp; omega
      go_wp2_with fail
      go_ret
      exact ⟨rfl, below_drewN Hbw1.out _⟩
end Go.Proofs.YtckpinnnmafdgaaDoor
