/- The law TapeOpens, walked. -/
import Derived.Test.YtijgkejknijplaaDoorSure
import Derived.Test.YtijgkejknijplaaDoorR4R
namespace Go.Proofs.YtijgkejknijplaaDoor
open Go.RowKit
set_option maxRecDepth 100000
set_option linter.unusedVariables false
set_option linter.unusedSimpArgs false
theorem make_calm (z : Nat) : (Dk.make z).Calm z := ⟨Dk.make_ok, rfl, rfl⟩
theorem Dk.Calm.laid {D : Dk} {z p : Nat} {b : List UInt8} (h : D.Calm z) (ha : D.armed = 0) (hp : p + b.length ≤ z) : (D.write p b).2 = 0 ∧ (D.write p b).1.sync = (D.wrote p b, 0) ∧ (D.wrote p b).Calm z := by
  rcases h.safely hp with ⟨h1, _⟩ | ⟨_, h1, h2⟩
  · omega
  · unfold Dk.safely at h1
    split at h1
    · rename_i h3
      exact ⟨h3, h1, h2⟩
    · rename_i h3
      rw [h1] at h3
      exact absurd rfl h3
theorem wrote_all (b : List UInt8) : ((Dk.make b.length).wrote 0 b).now = b := by
  show splice (List.replicate b.length 0) 0 b = b
  simp [splice]
/-- A disk on which bytes were laid: the error of the write, of the sync, the disk. -/
theorem laid_all (b : List UInt8) : ((Dk.make b.length).write 0 b).2 = 0 ∧ ((Dk.make b.length).write 0 b).1.sync.2 = 0 ∧ ((Dk.make b.length).write 0 b).1.sync.1.Calm b.length ∧ ((Dk.make b.length).write 0 b).1.sync.1.now = b ∧ ((Dk.make b.length).write 0 b).1.sync.1.armed = 0 := by
  obtain ⟨h1, h2, h3⟩ := (make_calm b.length).laid (b := b) (p := 0) rfl (by omega)
  rw [show ((0 : Nat) : Int) = 0 from rfl] at h1 h2
  exact ⟨h1, by rw [h2], by rw [h2]; exact h3, by rw [h2]; exact wrote_all b, by rw [h2]; rfl⟩
theorem make_q (z : Nat) : (Dk.make z).q.length = 0 := rfl
theorem room_same {a s E k : Nat} (h : a ≤ E) : (⟨a + s, a, E, k, 0⟩ : Tp).room = roomL s (E - a) := by
  unfold Tp.room roomL
  dsimp only
  by_cases h1 : E + 5 ≤ a + s
  · rw [if_pos h1, if_pos (by omega)]
    omega
  · rw [if_neg h1, if_neg (by omega)]
set_option maxHeartbeats 6400000 in
theorem opens_walk (A : Option Addr) (n c : Nat) (b : List UInt8) (x s : Int) (w : World) (hr : Rd w T 1 A n (bs b)) (hnc : n ≤ c) (hcm : c ≤ maxLen) (hx : I64 x) (hs : I64 s) (hg : ErrT w) :
    Calls Tryd.prog 3 #[.slice A n c, .int .i64 x, .int .i64 s] w (YesPost w) := by
  have hbl := hr.blen
  have hsure := fun W => sure_any W
  have Hsure := Lib.hid hsure
  have Hg := Lib.hid hg
  have Hr := Lib.hid hr
  have Hx := Lib.hid hx
  have Hs := Lib.hid hs
  have hw0 := hg.lt
  have hnum : ∀ k W, Below w.heap.size w W → Calls Tryd.prog 12 #[errD k] W fun e w' => e = .returned (.int .i64 k) ∧ Below W.heap.size W w' := fun k W hb => num_any k W (Hg.out.under hb hw0)
  have Hnum := Lib.hid hnum
  unfold I64 at hx hs
  unfold maxLen at hcm
  clear hsure hg hr hnum
  by_cases hlen : n < 1 ∨ 3000 < n
  · have hh : ((n : Int) < 1 ∧ True) ∨ ((3000 : Int) < n ∧ decide ((n : Int) < 1) = false) := by
      rcases hlen with h | h
      · exact .inl ⟨by omega, trivial⟩
      · exact .inr ⟨by omega, by simp; omega⟩
    clear hlen
    rcases hh with ⟨h1, -⟩ | ⟨h1, h2⟩
    all_goals
      go_enter Tryd.func3, Tryd.ntmps3
      go_wp2_with fail
      refine (Hsure.out _).mono ?_
      rintro e w1 ⟨rfl, hb1⟩
      go_wp2_with fail
      go_ret
      exact ⟨rfl, hb1⟩
  have h1d : decide ((n : Int) < 1) = false := by simp; omega
  have h2d : decide ((3000 : Int) < (n : Int)) = false := by simp; omega
  have hn1 : 1 ≤ n := by omega
  have hn3 : n ≤ 3000 := by omega
  have hnew := new_any n hn1 (by omega) w
  have hlaid := laid_all b
  rw [hbl] at hlaid
  have Hlaid := Lib.hid hlaid
  have Hbl := Lib.hid hbl
  clear hlen hlaid hbl
  go_enter Tryd.func3, Tryd.ntmps3
  go_wp2_with fail
  refine hnew.mono ?_
  rintro e w1 ⟨L, g, rfl, hdx, hL, hb1⟩
  have hwr := write_any 0 A n c b w1 hdx (((Hr.out.lt (by omega)).below hb1).mono fun k hk hl => by have := hL k hl; have := hk.2; omega) (by unfold I64; omega) (by omega) (by rw [make_q]; omega)
  unfold WritePost at hwr
  rw [Hlaid.out.1, errD_nil] at hwr
  have hq1 := write_q (Dk.make n) 0 b
  rw [make_q] at hq1
  obtain ⟨D1, hD1⟩ : ∃ D1, D1 = ((Dk.make n).write 0 b).1 := ⟨_, rfl⟩
  rw [← hD1] at hwr hq1
  obtain ⟨-, l2, l3, l4, l5⟩ := Hlaid.out
  rw [← hD1] at l2 l3 l4 l5
  have Hwr := Lib.hid hwr
  have HL := Lib.hid hL
  have Hb1 := Lib.hid hb1
  have Hl2 := Lib.hid l2
  have Hl3 := Lib.hid l3
  have Hl4 := Lib.hid l4
  clear hnew hwr hdx hL hb1 Hlaid hD1 l2 l3 l4 l5
  go_wp2_with fail
  refine Hwr.out.mono ?_
  rintro e w2 ⟨rfl, L2, hdx2, hl2, hk2⟩
  have hsy := sync_any w2 hdx2 (by omega)
  unfold SyncPost at hsy
  rw [Hl2.out, errD_nil] at hsy
  obtain ⟨D2, hD2⟩ : ∃ D2, D2 = D1.sync.1 := ⟨_, rfl⟩
  rw [← hD2] at hsy Hl3 Hl4
  have hL2 : ∀ k, L2 k → w.heap.size ≤ k := fun k hk => by
    rcases hl2 k hk with h | h
    · exact HL.out k h
    · exact Nat.le_trans Hb1.out.size h
  have hb2 : Below w.heap.size w w2 := Hb1.out.trans (hk2.below (fun k hk => HL.out k hk) Hb1.out.size)
  have Hsy := Lib.hid hsy
  have HL2 := Lib.hid hL2
  have Hb2 := Lib.hid hb2
  clear hsy hdx2 hl2 hk2 hL2 hb2 hD2 Hwr hq1
  go_wp2_with fail
  refine Hsy.out.mono ?_
  rintro e w3 ⟨rfl, L3, hdx3, hl3, hk3⟩
  have hop := open_any x s w3 hdx3 Hx.out Hs.out
  have hb3 : Below w.heap.size w w3 := Hb2.out.trans (hk3.below (fun k hk => HL2.out k hk) Hb2.out.size)
  have Hop := Lib.hid hop
  have Hb3 := Lib.hid hb3
  clear hop hdx3 hl3 hk3 hb3 Hsy
  go_wp2_with fail
  refine Hop.out.mono ?_
  have ho : D2.off = false := Hl3.out.off
  rintro e w4 ⟨hb4, ⟨hbad, rfl⟩ | ⟨-, h, -⟩ | ⟨hgd, -, hhalt, rfl⟩ | ⟨hgd, -, hhalt, tg, A4, m4, c4, rows4, rfl, htw, htd, hbr, hmap, hmc, hcmx⟩⟩
  · have hb := Hb3.out.trans (hb4.mono Hb3.out.size)
    have Hb4 := Lib.hid hb
    have hn4 : Calls Tryd.prog 12 #[.iface 58 (.int .i64 1)] w4 fun e w' => e = .returned (.int .i64 1) ∧ Below w4.heap.size w4 w' := Hnum.out 1 w4 hb
    have Hn4 := Lib.hid hn4
    unfold BadArea at hbad
    clear hb hb4 hn4 ho Hop
    have hh : x < 0 ∨ (decide (x < 0) = false ∧ s < 5) ∨ (decide (x < 0) = false ∧ decide (s < 5) = false ∧ (n : Int) < x) ∨ (decide (x < 0) = false ∧ decide (s < 5) = false ∧ decide ((n : Int) < x) = false ∧ (n : Int) - x < s ∧ -9223372036854775808 ≤ (n : Int) - x ∧ (n : Int) - x < 9223372036854775808) := by
      by_cases a1 : x < 0
      · exact .inl a1
      by_cases a2 : s < 5
      · exact .inr (.inl ⟨by simp; omega, a2⟩)
      by_cases a3 : (n : Int) < x
      · exact .inr (.inr (.inl ⟨by simp; omega, by simp; omega, a3⟩))
      · exact .inr (.inr (.inr ⟨by simp; omega, by simp; omega, by simp; omega, by omega, by omega, by omega⟩))
    clear hbad
    go_upto_region 7 with (fail)
    go_cut [75] (fun s75 W => s75 = .bool true ∧ W = w4)
    case first =>
      rcases hh with a1 | ⟨a1, a2⟩ | ⟨a1, a2, a3⟩ | ⟨a1, a2, a3, a4, a5, a6⟩
      all_goals
        go_wp2_with fail
        go_meet
        case rel => exact ⟨rfl, rfl⟩
    case rest =>
    obtain ⟨rfl, rfl⟩ := hcut
    clear hh
    go_wp2_with fail
    refine Hn4.out.mono ?_
    rintro e w5 ⟨rfl, hb5⟩
    have hb := Hb4.out.trans (hb5.mono Hb4.out.size)
    have Hb5 := Lib.hid hb
    clear hb hb5
    go_wp2_with fail
    refine (Hsure.out _).mono ?_
    rintro e w6 ⟨rfl, hb6⟩
    go_wp2_with fail
    go_ret
    exact ⟨rfl, Hb5.out.trans (hb6.mono Hb5.out.size)⟩
  · rw [ho] at h
    cases h
  · have Hb4 := Lib.hid (Hb3.out.trans (hb4.mono Hb3.out.size))
    unfold BadArea at hgd
    obtain ⟨a, rfl⟩ := Int.eq_ofNat_of_zero_le (show 0 ≤ x by omega)
    obtain ⟨z, rfl⟩ := Int.eq_ofNat_of_zero_le (show 0 ≤ s by omega)
    have ha : a + z ≤ n := by omega
    have hz5 : 5 ≤ z := by omega
    rw [Int.toNat_natCast, Int.toNat_natCast] at hhalt
    rw [Hl4.out] at hhalt
    have hcut := recs_cut (l := b) (a := a) (s := z) (by rw [Hbl.out]; exact ha)
    have g1 : decide ((a : Int) < 0) = false := by simp
    have g2 : decide ((z : Int) < 5) = false := by simp; omega
    have g3 : decide (n < a) = false := by simp; omega
    have g4 : decide ((n : Int) - (a : Int) < (z : Int)) = false := by simp; omega
    have s1 : -9223372036854775808 ≤ (n : Int) - (a : Int) := by omega
    have s2 : (n : Int) - (a : Int) < 9223372036854775808 := by omega
    have hrun := run_slice_lohi (P := Tryd.prog) 22 Tryd.underlying22 (size := 1) (by kernel_rfl) A n c
    obtain ⟨ad, had⟩ : ∃ ad, ad = (if c = a then A else A.map (·.add (a * 1))) := ⟨_, rfl⟩
    have hsl : ∀ W : World, (Instr.sliceAt 22 (.slice A n c) (some (.int .i64 (a : Int))) (some (.int .i64 ((a : Int) + z))) none).run Tryd.prog W = .ok (.slice ad z (c - a)) W := by
      intro W
      have := hrun W a (a + z) (by omega) (by omega)
      rw [← had] at this
      rw [show ((a : Int) + z) = ((a + z : Nat) : Int) by omega, this, show a + z - a = z by omega]
    have hrd := Hr.out.bsub (i := a) (k := z) (m := c) (by omega) (by omega)
    have e1 : (if c = a then A else A.map (·.add a)) = ad := by rw [had, Nat.mul_one]
    rw [e1] at hrd
    have hrec := records_any ad z (c - a) (cutAt b a z) w4 ((hrd.below Hb4.out) : Rd w4 T 1 ad z (bs (cutAt b a z))) (by omega) (by unfold maxLen; omega) (by omega)
    unfold RecPost at hrec
    rw [hcut, hhalt] at hrec
    have Hrec := Lib.hid hrec
    clear hrec hrd hrun had e1 hcut hb4 hhalt Hop Hx Hs hgd ho hx hs
    go_wp2_with fail
    refine Hrec.out.mono ?_
    rintro e w5 ⟨hb5, ⟨-, rfl⟩ | ⟨h, -⟩⟩
    · have hb := Hb4.out.trans (hb5.mono Hb4.out.size)
      have Hb5 := Lib.hid hb
      have hn5 : Calls Tryd.prog 12 #[.iface 58 (.int .i64 14)] w5 fun e w' => e = .returned (.int .i64 14) ∧ Below w5.heap.size w5 w' := Hnum.out 14 w5 hb
      have Hn5 := Lib.hid hn5
      clear hb hb5 hn5 Hrec
      go_wp2_with fail
      refine Hn5.out.mono ?_
      rintro e w6 ⟨rfl, hb6⟩
      have hb := Hb5.out.trans (hb6.mono Hb5.out.size)
      have Hb6 := Lib.hid hb
      have hli := list_any none none 0 0 0 0 [] [] w6 ⟨Rd.none_, fun x hx => (List.not_mem_nil hx).elim⟩ ⟨Rd.none_, fun x hx => (List.not_mem_nil hx).elim⟩ (by omega) (by omega)
      rw [show decide (List.map Br.d [] = List.map Br.d []) = true from rfl] at hli
      have Hli := Lib.hid hli
      clear hb hb6 hli
      go_wp2_with fail
      refine Hli.out.mono ?_
      rintro e w7 ⟨rfl, hb7⟩
      have hb := Hb6.out.trans (hb7.mono Hb6.out.size)
      have Hb7 := Lib.hid hb
      clear hb hb7
      go_wp2_with fail
      refine (Hsure.out _).mono ?_
      rintro e w8 ⟨rfl, hb8⟩
      go_wp2_with fail
      go_ret
      exact ⟨rfl, Hb7.out.trans (hb8.mono Hb7.out.size)⟩
    · cases h
  · have Hb4 := Lib.hid (Hb3.out.trans (hb4.mono Hb3.out.size))
    unfold BadArea at hgd
    obtain ⟨a, rfl⟩ := Int.eq_ofNat_of_zero_le (show 0 ≤ x by omega)
    obtain ⟨z, rfl⟩ := Int.eq_ofNat_of_zero_le (show 0 ≤ s by omega)
    have ha : a + z ≤ n := by omega
    have hz5 : 5 ≤ z := by omega
    rw [Int.toNat_natCast, Int.toNat_natCast] at hhalt htd hmap
    rw [Hl4.out] at hhalt htd hmap
    have hcut := recs_cut (l := b) (a := a) (s := z) (by rw [Hbl.out]; exact ha)
    have g1 : decide ((a : Int) < 0) = false := by simp
    have g2 : decide ((z : Int) < 5) = false := by simp; omega
    have g3 : decide (n < a) = false := by simp; omega
    have g4 : decide ((n : Int) - (a : Int) < (z : Int)) = false := by simp; omega
    have s1 : -9223372036854775808 ≤ (n : Int) - (a : Int) := by omega
    have s2 : (n : Int) - (a : Int) < 9223372036854775808 := by omega
    have hrun := run_slice_lohi (P := Tryd.prog) 22 Tryd.underlying22 (size := 1) (by kernel_rfl) A n c
    obtain ⟨ad, had⟩ : ∃ ad, ad = (if c = a then A else A.map (·.add (a * 1))) := ⟨_, rfl⟩
    have hsl : ∀ W : World, (Instr.sliceAt 22 (.slice A n c) (some (.int .i64 (a : Int))) (some (.int .i64 ((a : Int) + z))) none).run Tryd.prog W = .ok (.slice ad z (c - a)) W := by
      intro W
      have := hrun W a (a + z) (by omega) (by omega)
      rw [← had] at this
      rw [show ((a : Int) + z) = ((a + z : Nat) : Int) by omega, this, show a + z - a = z by omega]
    have hrd := Hr.out.bsub (i := a) (k := z) (m := c) (by omega) (by omega)
    have e1 : (if c = a then A else A.map (·.add a)) = ad := by rw [had, Nat.mul_one]
    rw [e1] at hrd
    have hrec := records_any ad z (c - a) (cutAt b a z) w4 ((hrd.below Hb4.out) : Rd w4 T 1 ad z (bs (cutAt b a z))) (by omega) (by unfold maxLen; omega) (by omega)
    unfold RecPost at hrec
    rw [hcut, hhalt] at hrec
    have Hrec := Lib.hid hrec
    obtain ⟨K, hK⟩ : ∃ K, K = (recs b a (a + z)).1.length := ⟨_, rfl⟩
    obtain ⟨E, hE⟩ : ∃ E, E = (recs b a (a + z)).2.1 := ⟨_, rfl⟩
    have hle := recs_le b a (a + z)
    rw [← hE, ← hK] at htd
    rw [← hE] at hle
    have hm4 : m4 = K := by rw [← hbr.len, hK, ← hmap, List.length_map]
    rw [hm4] at hbr ⊢
    have hK5 : K ≤ 1000000 := by
      have := hle.2.1
      have := hle.2.2
      omega
    have Htd := Lib.hid htd
    have Hbr := Lib.hid hbr
    have Hmap := Lib.hid hmap
    have HE := Lib.hid hE
    have HK := Lib.hid hK
    have haE : a ≤ E := hle.1
    have hEz : E ≤ a + z := hle.2.1 (by omega)
    clear hrec hrd hrun had e1 hcut hb4 hhalt Hop Hx Hs hgd ho hx hs htd hbr hmap hE hK hle hm4 hmc hcmx
    go_wp2_with fail
    refine Hrec.out.mono ?_
    rintro e w5 ⟨hb5, ⟨h, -⟩ | ⟨-, A5, m5, c5, rows5, rfl, hbr5, hmap5, hm5⟩⟩
    · cases h
    · dsimp only at hmap5 hm5 ⊢
      rw [← HE.out]
      obtain ⟨q, hq⟩ : ∃ q, q = E - a := ⟨_, rfl⟩
      rw [← hq]
      have Hq := Lib.hid hq
      have hq4 : q ≤ 4194304 := by omega
      clear hq
      rw [← HK.out] at hm5
      subst hm5
      have hb := Hb4.out.trans (hb5.mono Hb4.out.size)
      have Hb5 := Lib.hid hb
      have hn5 : Calls Tryd.prog 12 #[.nilIface] w5 fun e w' => e = .returned (.int .i64 0) ∧ Below w5.heap.size w5 w' := Hnum.out 0 w5 hb
      have Hn5 := Lib.hid hn5
      have Htd5 := Lib.hid (Htd.out.below hb5)
      have hbt : BRT w4 A4 m5 rows4 := ⟨Hbr.out.t, fun x hx => (Hbr.out.2 x hx).1.any⟩
      have Hbt := Lib.hid (hbt.below hb5)
      have Hbr5 := Lib.hid hbr5
      have Hmap5 := Lib.hid hmap5
      clear hb hb5 hn5 Hrec Htd hbt hbr5 hmap5
      go_wp2_with fail
      refine Hn5.out.mono ?_
      rintro e w6 ⟨rfl, hb6⟩
      have hb := Hb5.out.trans (hb6.mono Hb5.out.size)
      have Hb6 := Lib.hid hb
      have hli := list_any A4 A5 m5 c4 m5 c5 rows4 rows5 w6 (Hbt.out.below hb6) (Hbr5.out.below hb6) (by omega) (by unfold maxLen; omega)
      rw [Hmap.out, Hmap5.out, show decide ((recs b a (a + z)).1 = (recs b a (a + z)).1) = true from by simp] at hli
      have Hli := Lib.hid hli
      have Htd6 := Lib.hid (Htd5.out.below hb6)
      clear hb hb6 hli
      go_wp2_with fail
      refine Hli.out.mono ?_
      rintro e w7 ⟨rfl, hb7⟩
      have hb := Hb6.out.trans (hb7.mono Hb6.out.size)
      have Hb7 := Lib.hid hb
      have htd7 := Htd6.out.below hb7
      have hln := len_any w7 htd7
      have hrm := room_any w7 htd7
      rw [room_same haE, ← Hq.out] at hrm
      have hrr := fun k => room4_any z q (by omega) hq4 (w7.drewN k)
      obtain ⟨R, hR⟩ : ∃ R, R = roomL z q := ⟨_, rfl⟩
      rw [← hR] at hrm hrr
      have Hrr := Lib.hid hrr
      have Hrm := Lib.hid hrm
      have Hln := Lib.hid hln
      clear hb hb7 htd7 hrr hrm hln hR
      go_wp2_with fail
      refine Hln.out.mono ?_
      rintro e w8 ⟨rfl, rfl⟩
      go_wp2_with fail
      refine Hrm.out.mono ?_
      rintro e w9 ⟨rfl, k9, rfl⟩
      go_wp2_with fail
      refine (Hrr.out k9).mono ?_
      rintro e w10 ⟨rfl, rfl⟩
      go_wp2_with fail
      refine (Hsure.out _).mono ?_
      rintro e w11 ⟨rfl, hb11⟩
      go_wp2_with fail
      go_ret
      exact ⟨rfl, Hb7.out.trans ((below_un hb11).mono Hb7.out.size)⟩
end Go.Proofs.YtijgkejknijplaaDoor
