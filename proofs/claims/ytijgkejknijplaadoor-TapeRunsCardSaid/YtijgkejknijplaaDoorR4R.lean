/- Walk of the document's Records. -/
import Derived.Test.YtijgkejknijplaaDoorR4
import Derived.BigQuiet
namespace Go.Proofs.YtijgkejknijplaaDoor
open Go.RowKit
set_option maxRecDepth 100000
set_option linter.unusedVariables false
set_option linter.unusedSimpArgs false
def RecPost (W : World) (b : List UInt8) (n : Nat) (e : Ending) (w' : World) : Prop := Below W.heap.size W w' ∧
  (((recs b 0 n).2.2 = true ∧ e = .returned (.tuple #[.slice none 0 0, .int .i64 0, .int .i64 14])) ∨
  ((recs b 0 n).2.2 = false ∧ ∃ A m c rows, e = .returned (.tuple #[.slice A m c, .int .i64 ((recs b 0 n).2.1 : Nat), .int .i64 0]) ∧ BRT w' A m rows ∧ rows.map Br.d = (recs b 0 n).1 ∧ m = (recs b 0 n).1.length))
structure RecI (w : World) (b : List UInt8) (n p k : Nat) (Q : Option Addr) (c : Nat) (rows : List Br) (wr : World) : Prop where
  own : wr.ownsRow w.heap.size 22 1 (.slice Q k c) k (flat brcell rows)
  dat : ∀ x ∈ rows, Rd wr (fun b => b < w.heap.size) 1 x.A x.n (bs x.d)
  len : rows.length = k
  rec_ : recs b 0 n = (rows.map Br.d ++ (recs b p n).1, (recs b p n).2)
  k5 : k * 5 ≤ p
  be : Below w.heap.size w wr
section
variable {w wr wr' : World} {b : List UInt8} {n p k c : Nat} {Q : Option Addr} {rows : List Br}
theorem RecI.below (h : RecI w b n p k Q c rows wr) (hb : Below wr.heap.size wr wr') : RecI w b n p k Q c rows wr' := ⟨own_below h.own hb, fun x hx => (h.dat x hx).below hb, h.len, h.rec_, h.k5, h.be.trans (hb.mono h.be.size)⟩
theorem RecI.fin (h : RecI w b n p k Q c rows wr) (hr : recs b p n = ([], p, false)) : RecPost w b n (.returned (.tuple #[.slice Q k c, .int .i64 (p : Nat), .int .i64 0])) wr := by
  have e1 : recs b 0 n = (rows.map Br.d, p, false) := by rw [h.rec_, hr, List.append_nil]
  refine ⟨h.be, .inr ⟨by rw [e1], Q, k, c, rows, by rw [e1], ⟨(Rd.of_own h.own).any, fun x hx => (h.dat x hx).any⟩, by rw [e1], ?_⟩⟩
  rw [e1, List.length_map, h.len]
theorem RecI.halt (h : RecI w b n p k Q c rows wr) (hr : recs b p n = ([], p, true)) : RecPost w b n (.returned (.tuple #[.slice none 0 0, .int .i64 0, .int .i64 14])) wr := ⟨h.be, .inl ⟨by rw [h.rec_, hr], rfl⟩⟩
theorem RecI.more {w3 : World} {N c2 c3 : Nat} {A2 Q3 : Option Addr} (h : RecI w b n p k Q c rows wr) (hN : N = lnAt b p) (hm : mkAt b p = 1) (hle : p + 5 + N ≤ n) (hr : Rd w T 1 A2 N (bs (cutAt b (p + 5) N))) {t0 : TypeId}
    (hown : w3.ownsRow w.heap.size 22 1 (.slice Q3 (k + 1) c3) (k + 1) (flat brcell rows ++ [.slice A2 N c2])) (hg : (wr.alloc (.cells #[.slice A2 N c2] t0)).grownBy w3 (Q.map (·.block))) :
    RecI w b n (p + 5 + N) (k + 1) Q3 c3 (rows ++ [⟨A2, N, c2, cutAt b (p + 5) N⟩]) w3 := by
  have hrec := recs_one (l := b) (p := p) (e := n) (by rw [← hN]; exact hle) hm
  rw [← hN] at hrec
  have hol := own_lt h.own
  have hbe : Below w.heap.size w w3 := (h.be.alloc h.be.size _).grown hg (Nat.le_trans h.be.size (by simp)) fun g hg => (hol g hg).1
  refine ⟨by rw [flat_append, flat_one]; exact hown, fun x hx => ?_, by rw [List.length_append, h.len]; rfl, ?_, by have := h.k5; omega, hbe⟩
  · rcases List.mem_append.1 hx with hx | hx
    · refine (h.dat x hx).keep fun b' hb _ => ?_
      rw [hbe.block b' hb, h.be.block b' hb]
    · obtain rfl := List.mem_singleton.1 hx
      exact ((hr.lt (by omega)).keep fun b' hb _ => hbe.block b' hb.2).mono fun b' hb => hb.2
  · rw [h.rec_, hrec]
    simp only [List.map_append, List.append_assoc, List.map_cons, List.map_nil, List.cons_append, List.nil_append]
end
set_option maxHeartbeats 3200000 in
theorem records_any (A : Option Addr) (n c : Nat) (b : List UInt8) (w : World) (hr : Rd w T 1 A n (bs b)) (hnc : n ≤ c) (hc : c ≤ maxLen) (hn : n ≤ 4194304) :
    Calls Tryd.prog 13 #[.slice A n c] w (RecPost w b n) := by
  have hbl := hr.blen
  have hst : RecI w b n 0 0 none 0 [] w := ⟨own_nil _ _ _ _ _ rfl, fun x hx => (List.not_mem_nil hx).elim, rfl, rfl, by omega, Below.refl _ _⟩
  have Hst := Lib.hid hst
  have Hr := Lib.hid hr
  have Hbl := Lib.hid hbl
  unfold maxLen at hc
  clear hst hr hbl
  go_enter Tryd.func13, Tryd.ntmps13
  go_wp2_with fail
  go_loopg [5, 6] n (fun m s5 s6 wr => ∃ p k Q c5 rows, m = n - p ∧ s5 = .slice Q k c5 ∧ s6 = .int .i64 (p : Nat) ∧ p ≤ n ∧ RecI w b n p k Q c5 rows wr)
  case atStart => exact ⟨0, 0, none, 0, [], by omega, rfl, rfl, by omega, Hst.out⟩
  case round =>
    obtain ⟨p, k, Q, c5, rows, hm, rfl, rfl, hpn, hi⟩ := hrel
    have Hi := Lib.hid hi
    have Hm := Lib.hid hm
    clear hi hm
    by_cases hp5 : p + 5 ≤ n
    · have hp5I : (5 : Int) ≤ (n : Int) - p := by omega
      have s1 : -9223372036854775808 ≤ (n : Int) - p := by omega
      have s2 : (n : Int) - p < 9223372036854775808 := by omega
      obtain ⟨bl, o, rfl, -, hblt, hcell⟩ := (Hr.out.below Hi.out.be).plain (by omega) (by omega)
      have hcl : ∀ j, j < n → wr.cell? ⟨bl, o + j, none⟩ = some (.int .u8 ((b.getD j 0).toNat : Int)) := fun j hj => hcell j _ (by rw [bs_get b j (by rw [Hbl.out]; exact hj), List.getD_eq_getElem?_getD, List.getElem?_eq_getElem (by rw [Hbl.out]; exact hj)]; rfl)
      have q0 := hcl p (by omega)
      have q1 := hcl (p + 1) (by omega)
      have q2 := hcl (p + 2) (by omega)
      have q3 := hcl (p + 3) (by omega)
      have q4 := hcl (p + 4) (by omega)
      have hpI : (p : Int) < n := by omega
      have hpI1 : (p : Int) + 1 < n := by omega
      have hpI2 : (p : Int) + 2 < n := by omega
      have hpI3 : (p : Int) + 3 < n := by omega
      have hpI4 : (p : Int) + 4 < n := by omega
      have hp0 : (0 : Int) ≤ p := by omega
      have hpn4 : p ≤ 4194304 := by omega
      clear hcell hcl
      have emk : b.getD p 0 = mkAt b p := rfl
      rw [emk] at q0
      obtain ⟨M, hM⟩ : ∃ M, M = mkAt b p := ⟨_, rfl⟩
      rw [← hM] at q0
      have HM := Lib.hid hM
      clear hM emk
      by_cases hm0 : M = 0
      · subst hm0
        have hfin := Hi.out.fin (recs_end HM.out.symm)
        have Hfin := Lib.hid hfin
        clear hfin
        go_wp2_with fail
        refine bodyPost_ret (by simp [results, Tryd.results13, go_sem]; rfl) rfl ?_
        exact Hfin.out
      · have hm2 : ¬ ((M.toNat : Int) = 0) := fun h => hm0 (UInt8.toNat_inj.1 (by show M.toNat = 0; omega))
        obtain ⟨x1, hx1⟩ : ∃ x, x = (b.getD (p + 1) 0).toNat := ⟨_, rfl⟩
        obtain ⟨x2, hx2⟩ : ∃ x, x = (b.getD (p + 2) 0).toNat := ⟨_, rfl⟩
        obtain ⟨x3, hx3⟩ : ∃ x, x = (b.getD (p + 3) 0).toNat := ⟨_, rfl⟩
        obtain ⟨x4, hx4⟩ : ∃ x, x = (b.getD (p + 4) 0).toNat := ⟨_, rfl⟩
        have hln : lnAt b p = x1 * 16777216 + x2 * 65536 + x3 * 256 + x4 := by rw [hx1, hx2, hx3, hx4]; rfl
        have b1 : x1 < 256 := by rw [hx1]; exact (b.getD (p + 1) 0).toNat_lt
        have b2 : x2 < 256 := by rw [hx2]; exact (b.getD (p + 2) 0).toNat_lt
        have b3 : x3 < 256 := by rw [hx3]; exact (b.getD (p + 3) 0).toNat_lt
        have b4 : x4 < 256 := by rw [hx4]; exact (b.getD (p + 4) 0).toNat_lt
        rw [← hx1] at q1
        rw [← hx2] at q2
        rw [← hx3] at q3
        rw [← hx4] at q4
        have Hln := Lib.hid hln
        clear hx1 hx2 hx3 hx4 hln
        go_upto_region 5 with (fail)
        go_cut [7] (fun s7 W => s7 = .int .i64 (lnAt b p : Nat) ∧ ∃ j, W = wr.drewN j)
        case first =>
          go_quiet (fail)
          go_wp2_with fail
          go_meet
          case rel => exact ⟨by rw [Hln.out]; congr 1, _, rfl⟩
        case rest =>
          obtain ⟨rfl, j, rfl⟩ := hcut
          obtain ⟨N, hN⟩ : ∃ N, N = lnAt b p := ⟨_, rfl⟩
          rw [← hN]
          have hNl : N < 4294967296 := by rw [hN, Hln.out]; omega
          have s3 : -9223372036854775808 ≤ (n : Int) - p - 5 := by omega
          have s4 : (n : Int) - p - 5 < 9223372036854775808 := by omega
          have hi2 := Hi.out.below (wr' := wr.drewN j) ⟨rfl, rfl, rfl, Nat.le_refl _, fun _ _ => rfl⟩
          clear q1 q2 q3 q4 hpI1 hpI2 hpI3 hpI4
          by_cases hM1 : M = 1
          · subst hM1
            by_cases hlong : n < p + 5 + N
            · have g1 : (n : Int) - p - 5 < N := by omega
              have hfin := hi2.halt (recs_halt hp5 (by rw [← HM.out]; decide) (.inr (by rw [← hN]; exact hlong)))
              have Hfin := Lib.hid hfin
              clear hfin hi2 hN hm0 hm2
              go_wp2_with fail
              refine bodyPost_ret (by simp [results, Tryd.results13, go_sem]; rfl) rfl ?_
              exact Hfin.out
            · have g1 : decide ((n : Int) - p - 5 < (N : Int)) = false := by simp; omega
              have hle : p + 5 + N ≤ n := by omega
              have hk5 := hi2.k5
              have hmore := fun A3 c3 Q3 cc w4 => hi2.more (w3 := w4) (A2 := A3) (c2 := c3) (Q3 := Q3) (c3 := cc) (t0 := 22) hN HM.out.symm hle
              have hrun := run_slice_lohi (P := Tryd.prog) 22 Tryd.underlying22 (size := 1) (by kernel_rfl) (some ⟨bl, o, none⟩) n c
              obtain ⟨ad, had⟩ : ∃ ad, ad = (if c = p + 5 then some (⟨bl, o, none⟩ : Addr) else (some (⟨bl, o, none⟩ : Addr)).map (·.add ((p + 5) * 1))) := ⟨_, rfl⟩
              have hsl : ∀ W : World, (Instr.sliceAt 22 (.slice (some ⟨bl, o, none⟩) n c) (some (.int .i64 ((p : Int) + 5))) (some (.int .i64 ((p : Int) + 5 + N))) none).run Tryd.prog W = .ok (.slice ad N (c - (p + 5))) W := by
                intro W
                have := hrun W (p + 5) (p + 5 + N) (by omega) (by omega)
                rw [← had] at this
                rw [show ((p : Int) + 5) = ((p + 5 : Nat) : Int) by omega, show (((p + 5 : Nat) : Int) + N) = ((p + 5 + N : Nat) : Int) by omega, this, show p + 5 + N - (p + 5) = N by omega]
              have hrd := Hr.out.bsub (i := p + 5) (k := N) (m := c) (by omega) (by omega)
              have e1 : (if c = p + 5 then some (⟨bl, o, none⟩ : Addr) else (some (⟨bl, o, none⟩ : Addr)).map (·.add (p + 5))) = ad := by rw [had, Nat.mul_one]
              rw [e1] at hrd
              have hown := hi2.own
              have hbe := hi2.be.size
              have Hmore := Lib.hid hmore
              have Hrd := Lib.hid hrd
              have Hown := Lib.hid hown
              have hlit : Rd ((wr.drewN j).alloc (.cells #[.slice ad N (c - (p + 5))] 22)) (wr.heap.size ≤ ·) 1 (some ⟨wr.heap.size, 0, none⟩) 1 [.slice ad N (c - (p + 5))] := Rd.lit (w := wr.drewN j) (cs := #[.slice ad N (c - (p + 5))]) (t := 22) (fr := (0, 0)) rfl
              have Hlit := Lib.hid hlit
              have hN4 : p + 5 + N ≤ 4194304 := by omega
              clear hmore hrd hown hlit hi2 hN hrun had e1 hm0 hm2 s1 s2 s3 s4 hNl
              go_wp2_with (at_builtin; go_must (refine wpList_append_any _ Tryd.underlying32 bb_elem rfl (by omega) rfl rfl rfl (own_below Hown.out ((Below.refl _ _).alloc (Nat.le_refl _) _)) rfl Hlit.out (by intro u hu; obtain rfl := List.mem_singleton.1 hu; rfl) (by omega) (by simp; exact Nat.le_trans hbe (Nat.le_succ _)) rfl rfl ?_); intro A3 c3 w4 hown5 hg5 hat5)
              go_roundg (n - (p + 5 + N))
              case measure => have := Hm.out; omega
              case rel =>
                exact ⟨p + 5 + N, k + 1, A3, c3, _, rfl, rfl, by go_num, hle, Hmore.out _ _ A3 c3 w4 Hrd.out hown5 hg5⟩
          · have hm1 : ¬ ((M.toNat : Int) = 1) := fun h => hM1 (UInt8.toNat_inj.1 (by show M.toNat = 1; omega))
            have hfin := hi2.halt (recs_halt hp5 (by rw [← HM.out]; exact hm0) (.inl (by rw [← HM.out]; exact hM1)))
            have Hfin := Lib.hid hfin
            clear hfin hi2 hN
            go_wp2_with fail
            refine bodyPost_ret (by simp [results, Tryd.results13, go_sem]; rfl) rfl ?_
            exact Hfin.out
    · have hp5I : decide ((5 : Int) ≤ (n : Int) - p) = false := by simp; omega
      have s1 : -9223372036854775808 ≤ (n : Int) - p := by omega
      have s2 : (n : Int) - p < 9223372036854775808 := by omega
      have hfin := Hi.out.fin (recs_no hp5)
      have Hfin := Lib.hid hfin
      clear hfin
      go_wp2_with fail
      refine bodyPost_ret (by simp [results, Tryd.results13, go_sem]; rfl) rfl ?_
      exact Hfin.out
end Go.Proofs.YtijgkejknijplaaDoor
