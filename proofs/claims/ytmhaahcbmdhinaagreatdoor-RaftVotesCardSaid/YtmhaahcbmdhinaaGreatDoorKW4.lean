/- A pack.Reader: what its acts take off.
   A pack.Reader: numbers up to a bound, counts, bytes.
   A pack.Reader: counts, bytes.
   Plain law of decimal digits: no program in sight.
   The document's reader (tollbarref01): fail, head, digits. -/
import Derived.Test.YtmhaahcbmdhinaaGreatDoorKW3
namespace Go.Proofs.YtmhaahcbmdhinaaGreatDoor
open Go.RowKit
set_option maxRecDepth 100000
set_option linter.unusedVariables false
set_option linter.unusedSimpArgs false
theorem headE_cons (x c : UInt8) (r : List UInt8) : headE x (c :: r) = if c = x then 0 else 3 := rfl
theorem dnum_ne {ds : List UInt8} {e : Int} (h : dnum ds = .inl e) : e = 3 := by
  unfold dnum at h
  split at h
  · split at h
    · injection h with h; exact h.symm
    · cases h
  · injection h with h; exact h.symm
theorem dscan_ne {sg : UInt8} : ∀ {l acc : List UInt8} {e : Int}, dscan sg acc l = .inl e → e ≠ 0 := by
  intro l
  induction l with
  | nil => intro acc e h; injection h with h; omega
  | cons c r ih =>
    intro acc e h
    rw [dscan] at h
    split at h
    · have := dnum_ne h; omega
    · split at h
      · injection h with h; omega
      · exact ih h
def okV : Option (Nat × Nat) → Value
  | none => .tuple #[.int .u64 0, .int .i64 0, .bool false]
  | some (n, k) => .tuple #[.int .u64 (n : Nat), .int .i64 (k : Nat), .bool true]
theorem okV_none : okV none = .tuple #[.int .u64 0, .int .i64 0, .bool false] := rfl
theorem okV_some (n k : Nat) : okV (some (n, k)) = .tuple #[.int .u64 (n : Nat), .int .i64 (k : Nat), .bool true] := rfl
theorem RdPost.up {W W1 w' : World} {p : Nat} {s : RdS} {v : Value} {e : Ending} (h : RdPost W1 p s v e w') (hg : W.grownBy W1 (some p)) : RdPost W p s v e w' := ⟨h.1, h.2.1, gb_trans hg h.2.2⟩
def numR (s : RdS) : Int ⊕ (Nat × Nat) → RdS × Option (Nat × Nat)
  | .inl e => ((s.1, e), none)
  | .inr (n, k) => (s, some (n, k + 2))
theorem numR_inl (s : RdS) (e : Int) : numR s (.inl e) = ((s.1, e), none) := rfl
theorem numR_inr (s : RdS) (n k : Nat) : numR s (.inr (n, k)) = (s, some (n, k + 2)) := rfl
theorem numS_eq {x sg : UInt8} {s : RdS} (h : s.2 = 0) : numS x sg s = numR s (pnum x sg s.1) := by
  unfold numS
  rw [if_neg (fun hh => hh h)]
  cases pnum x sg s.1 <;> rfl
theorem number_any (p : Nat) (s : RdS) (x sg : UInt8) (w : World) (h : Rr w p s) :
    Calls Tryz.prog 224 #[.pointer (some ⟨p, 0, none⟩), .string ⟨#[x]⟩, .int .u8 (sg.toNat : Int), .int .i64 1] w (RdPost w p (numS x sg s).1 (okV (numS x sg s).2)) := by
  have hb := begin_any p s x w h
  have hf := fun w1 (hb1 : Below w.heap.size w w1) => fails_any p s (headE x s.1) w1 (h.gb hb1)
  by_cases hs : s.2 = 0
  · rw [hs] at hf
    simp only [if_true] at hf
    by_cases he : headE x s.1 = 0
    · obtain ⟨r, hr⟩ : ∃ r, s.1 = x :: r := by
        cases hl : s.1 with
        | nil => rw [hl] at he; exact absurd (show (12 : Int) = 0 from he) (by decide)
        | cons c r =>
          rw [hl] at he
          by_cases hc : c = x
          · exact ⟨r, by rw [hc]⟩
          · rw [headE_cons, if_neg hc] at he
            omega
      obtain ⟨R, hR⟩ : ∃ R, dscan sg [] r = R := ⟨_, rfl⟩
      have hN : numS x sg s = numR s R := by
        rw [numS_eq hs, hr, pnum, if_pos rfl, hR]
      have hd : ∀ w1, Rr w1 p (s.1, 0) → ∀ A n c, Rd w1 (· < p) 1 A n (bs s.1) → n ≤ c → c ≤ maxLen → Calls Tryz.prog 243 #[.slice A n c, .int .i64 ((1 : Nat) : Int), .int .u8 (sg.toNat : Int)] w1 (fun e w' => e = .returned (numV 1 R) ∧ Below w1.heap.size w1 w') := fun w1 h1 A n c r1 h2 h3 => by
        have := digits_rd A n c s.1 1 sg w1 r1 h2 h3 (by have := r1.blen; rw [hr] at this; simp at this; omega) h1.ev
        rw [hr, List.drop_one, List.tail_cons, hR] at this
        exact this
      rw [he] at hb hf
      rw [errE0] at hb hf
      have hne : ∀ e, R = .inl e → e ≠ 0 := fun e h => dscan_ne (hR.trans h)
      have Hb := Lib.hid hb
      have Hf := Lib.hid hf
      have Hd := Lib.hid hd
      have HN := Lib.hid hN
      have Hne := Lib.hid hne
      have hs0 : s = (s.1, 0) := by rw [← hs]
      have HS := Lib.hid hs0
      clear hb hf hd hN hne hR hr h hs he hs0
      rw [HN.out]
      go_enter Tryz.func224, Tryz.ntmps224
      go_wp2_with fail
      refine Hb.out.mono ?_
      rintro e w1 ⟨rfl, hb1⟩
      go_wp2_with fail
      refine (Hf.out _ hb1).mono ?_
      rintro e w2 ⟨rfl, h2, g2⟩
      have G2 := gb_trans (below_gb (p := p) hb1) g2
      obtain ⟨A, n, c, c0, c1, f0, f1, r2, n1, n2⟩ := h2.cells
      have hdg := Hd.out _ h2 A n c r2 n1 n2
      have Hdg := Lib.hid hdg
      have H2 := Lib.hid (And.intro h2 G2)
      clear hb1 g2 h2 G2 r2 n1 n2 hdg c1 f0 f1
      go_wp2_with fail
      refine Hdg.out.mono ?_
      rintro e w3 ⟨rfl, hb3⟩
      have h3 := H2.out.1.gb hb3
      have G3 := gb_trans H2.out.2 (below_gb hb3)
      rcases R with e | ⟨u, k⟩
      · have hf3 := fails_any p (s.1, 0) e w3 h3
        have hd3 : decide (e ≠ 0) = true := decide_eq_true (Hne.out e rfl)
        simp only [if_true] at hf3
        rw [hd3] at hf3
        have Hf3 := Lib.hid hf3
        have HG := Lib.hid G3
        clear hf3 h3 G3 hb3 hd3 c0
        rw [numV_inl, numR_inl]
        go_wp2_with fail
        refine Hf3.out.mono ?_
        rintro e' w4 ⟨rfl, h4, g4⟩
        have H4 := Lib.hid (And.intro h4 (gb_trans HG.out g4))
        clear h4 g4
        go_wp2_with fail
        go_ret3
        exact ⟨rfl, H4.out⟩
      · have hf3 := fails_any p (s.1, 0) 0 w3 h3
        simp only [if_true] at hf3
        rw [errE0] at hf3
        have Hf3 := Lib.hid hf3
        have HG := Lib.hid G3
        clear hf3 h3 G3 hb3 c0
        rw [numV_inr, numR_inr]
        go_wp2_with fail
        refine Hf3.out.mono ?_
        rintro e' w4 ⟨rfl, h4, g4⟩
        have H4 := Lib.hid (And.intro h4 (gb_trans HG.out g4))
        clear h4 g4
        go_wp2_with fail
        go_ret3
        have h5 := H4.out.1
        rw [← HS.out] at h5
        refine ⟨?_, h5, H4.out.2⟩
        have e2 : ((1 + k + 1 : Nat) : Int) = ((k + 2 : Nat) : Int) := by omega
        rw [numR_inr, okV_some, ← e2]
        rfl
    · have hN : numS x sg s = ((s.1, headE x s.1), none) := by
        rw [numS_eq hs]
        have hp : pnum x sg s.1 = .inl (headE x s.1) := by
          cases hl : s.1 with
          | nil => rfl
          | cons c r =>
            rw [hl] at he
            by_cases hc : c = x
            · rw [headE_cons, if_pos hc] at he
              exact absurd rfl he
            · rw [headE_cons, pnum, if_neg hc, if_neg hc]
        rw [hp, numR_inl]
      have hdt : decide (headE x s.1 ≠ 0) = true := decide_eq_true he
      rw [hdt] at hf
      rw [errE_ne he] at hb hf
      have Hb := Lib.hid hb
      have Hf := Lib.hid hf
      have HN := Lib.hid hN
      clear hb hf hN h hs he hdt
      rw [HN.out]
      go_enter Tryz.func224, Tryz.ntmps224
      go_wp2_with fail
      refine Hb.out.mono ?_
      rintro e w1 ⟨rfl, hb1⟩
      go_wp2_with fail
      refine (Hf.out _ hb1).mono ?_
      rintro e w2 ⟨rfl, h2, g2⟩
      have H2 := Lib.hid (And.intro h2 (gb_trans (below_gb (p := p) hb1) g2))
      clear h2 g2 hb1
      go_wp2_with fail
      go_ret3
      exact ⟨rfl, H2.out⟩
  · have hN : numS x sg s = (s, none) := by
      unfold numS
      rw [if_pos hs]
    simp only [hs, if_false] at hf
    have hdt : decide (s.2 ≠ 0) = true := decide_eq_true hs
    rw [hdt] at hf
    have Hb := Lib.hid hb
    have Hf := Lib.hid hf
    have HN := Lib.hid hN
    clear hb hf hN h hs hdt
    rw [HN.out]
    have hek : errE (headE x s.1) = .nilIface ∨ ∃ k, errE (headE x s.1) = .iface 105 (.int .i64 k) := by
      by_cases h0 : headE x s.1 = 0
      · exact .inl (if_pos h0)
      · exact .inr ⟨_, if_neg h0⟩
    rcases hek with hek | ⟨k, hek⟩
    all_goals
      rw [hek] at Hb Hf
      clear hek
      go_enter Tryz.func224, Tryz.ntmps224
      go_wp2_with fail
      refine Hb.out.mono ?_
      rintro e w1 ⟨rfl, hb1⟩
      go_wp2_with fail
      refine (Hf.out _ hb1).mono ?_
      rintro e w2 ⟨rfl, h2, g2⟩
      have H2 := Lib.hid (And.intro h2 (gb_trans (below_gb (p := p) hb1) g2))
      clear h2 g2 hb1
      go_wp2_with fail
      go_ret3
      exact ⟨rfl, H2.out⟩
end Go.Proofs.YtmhaahcbmdhinaaGreatDoor

namespace Go.Proofs.YtmhaahcbmdhinaaGreatDoor
open Go.RowKit
set_option maxRecDepth 100000
set_option linter.unusedVariables false
set_option linter.unusedSimpArgs false
theorem numS_some {x sg : UInt8} {s s' : RdS} {n k : Nat} (h : numS x sg s = (s', some (n, k))) : s' = s ∧ s.2 = 0 ∧ k ≤ s.1.length ∧ n < 18446744073709551616 ∧ k ≤ 22 := by
  by_cases hs : s.2 = 0
  · rw [numS_eq hs] at h
    cases hp : pnum x sg s.1 with
    | inl e => rw [hp, numR_inl] at h; cases h
    | inr q =>
      obtain ⟨u, j⟩ := q
      rw [hp, numR_inr] at h
      injection h with h1 h2
      injection h2 with h2
      injection h2 with h2 h3
      subst h1 h2 h3
      refine ⟨rfl, hs, ?_⟩
      cases hl : s.1 with
      | nil => rw [hl] at hp; cases hp
      | cons c r =>
        rw [hl, pnum] at hp
        split at hp
        · have := dscan_len (by simp) hp
          simp only [List.length_nil, List.length_cons] at this ⊢
          omega
        · cases hp
  · unfold numS at h
    rw [if_pos hs] at h
    cases h
def boundR (most : Nat) (s' : RdS) : Option (Nat × Nat) → RdS × Option (Nat × Nat)
  | none => (s', none)
  | some (n, k) => if most < n then ((s'.1, 4), none) else (s', some (n, k))
theorem boundR_none (most : Nat) (s' : RdS) : boundR most s' none = (s', none) := rfl
theorem boundR_some (most n k : Nat) (s' : RdS) : boundR most s' (some (n, k)) = if most < n then ((s'.1, 4), none) else (s', some (n, k)) := rfl
theorem boundS_eq {most : Nat} {s s' : RdS} {o : Option (Nat × Nat)} (h : numS 110 59 s = (s', o)) : boundS most s = boundR most s' o := by
  unfold boundS
  rw [h]
  cases o <;> rfl
theorem boundS_some {most : Nat} {s s' : RdS} {n k : Nat} (h : boundS most s = (s', some (n, k))) : s' = s ∧ s.2 = 0 ∧ k ≤ s.1.length ∧ n ≤ most ∧ k ≤ 22 := by
  obtain ⟨⟨s1, o⟩, hn⟩ : ∃ q, numS 110 59 s = q := ⟨_, rfl⟩
  rw [boundS_eq hn] at h
  cases o with
  | none => rw [boundR_none] at h; cases h
  | some q =>
    obtain ⟨u, j⟩ := q
    have := numS_some hn
    rw [boundR_some] at h
    split at h
    · cases h
    · injection h with h1 h2
      injection h2 with h2
      injection h2 with h2 h3
      subst h1 h2 h3
      exact ⟨this.1, this.2.1, this.2.2.1, by omega, this.2.2.2.2⟩
theorem bounded_any (p : Nat) (s : RdS) (most : Nat) (w : World) (h : Rr w p s) :
    Calls Tryz.prog 210 #[.pointer (some ⟨p, 0, none⟩), .int .u64 (most : Nat)] w (RdPost w p (boundS most s).1 (okV (boundS most s).2)) := by
  have hn := number_any p s 110 59 w h
  obtain ⟨⟨s', o⟩, hq⟩ : ∃ q, numS 110 59 s = q := ⟨_, rfl⟩
  have hb := boundS_eq (most := most) hq
  rw [hq] at hn
  rcases o with _ | ⟨u, k⟩
  · dsimp only at hn
    rw [boundR_none] at hb
    rw [okV_none] at hn
    have Hn := Lib.hid hn
    have Hb := Lib.hid hb
    clear hn hb hq h
    rw [Hb.out]
    go_enter Tryz.func210, Tryz.ntmps210
    go_wp2_with fail
    refine Hn.out.mono ?_
    rintro e w1 ⟨rfl, h1, g1⟩
    have H1 := Lib.hid (And.intro h1 g1)
    clear h1 g1
    go_wp2_with fail
    go_ret3
    exact ⟨rfl, H1.out⟩
  · dsimp only at hn
    rw [boundR_some] at hb
    rw [okV_some] at hn
    obtain ⟨rfl, hs0, -, hu, hk⟩ := numS_some hq
    by_cases hm : most < u
    · rw [if_pos hm] at hb
      have hmN : decide (most < u) = true := decide_eq_true hm
      have hf := fun w1 (h1 : Rr w1 p s') => fails_any p s' 4 w1 h1
      rw [hs0] at hf
      simp only [if_true] at hf
      have hd4 : decide ((4 : Int) ≠ 0) = true := rfl
      rw [hd4, errE_ne (by decide)] at hf
      have Hn := Lib.hid hn
      have Hb := Lib.hid hb
      have Hf := Lib.hid hf
      clear hn hb hq h hf hs0 hd4 hm
      rw [Hb.out]
      go_enter Tryz.func210, Tryz.ntmps210
      go_wp2_with fail
      refine Hn.out.mono ?_
      rintro e w1 ⟨rfl, h1, g1⟩
      have Hf1 := Lib.hid (Hf.out _ h1)
      have G1 := Lib.hid g1
      clear h1 g1
      go_wp2_with fail
      refine Hf1.out.mono ?_
      rintro e w2 ⟨rfl, h2, g2⟩
      have H2 := Lib.hid (And.intro h2 (gb_trans G1.out g2))
      clear h2 g2
      go_wp2_with fail
      go_ret3
      exact ⟨rfl, H2.out⟩
    · rw [if_neg hm] at hb
      have hmI : decide ((most : Int) < (u : Int)) = false := decide_eq_false (by omega)
      have hmN : decide (most < u) = false := decide_eq_false hm
      have Hn := Lib.hid hn
      have Hb := Lib.hid hb
      clear hn hb hq h hs0 hm
      rw [Hb.out]
      go_enter Tryz.func210, Tryz.ntmps210
      go_wp2_with fail
      refine Hn.out.mono ?_
      rintro e w1 ⟨rfl, h1, g1⟩
      have H1 := Lib.hid (And.intro h1 g1)
      clear h1 g1
      go_wp2_with fail
      go_ret3
      exact ⟨rfl, H1.out⟩
/-- The rest from k on, stored. -/
theorem rest_any {W : World} {p : Nat} {s : RdS} (h : Rr W p s) {k : Nat} (hk : k ≤ s.1.length) : ∃ A n c A', W.cell? ⟨p, 0, none⟩ = some (.slice A n c) ∧ W.frozen? ⟨p, 0, none⟩ = false ∧ k ≤ n ∧ s.1.length = n ∧ n ≤ c ∧ c ≤ maxLen ∧
    (∀ W', (Instr.sliceAt 26 (.slice A n c) (some (.int .i64 (k : Int))) none none).run Tryz.prog W' = .ok (.slice A' (n - k) (c - k)) W') ∧ Rr (W.setCell ⟨p, 0, none⟩ (.slice A' (n - k) (c - k))) p (s.1.drop k, s.2) ∧ Rd W (· < p) 1 A n (bs s.1) := by
  obtain ⟨A, n, c, c0, c1, f0, f1, hr, h1, h2⟩ := h.cells
  have hl := hr.blen
  have hb := hr.bsub (i := k) (k := n - k) (m := c) (by omega) (by omega)
  rw [List.take_of_length_le (by rw [List.length_drop]; omega)] at hb
  refine ⟨A, n, c, if c = k then A else A.map (·.add k), c0, f0, by omega, hl, h1, h2, fun W' => ?_, h.to hb (by omega) (by omega), hr⟩
  have := run_slice_lo (P := Tryz.prog) 26 Tryz.underlying26 (size := 1) (by kernel_rfl) A n c W' k (by omega)
  rw [Nat.mul_one] at this
  exact this
theorem uint_rd (p : Nat) (s : RdS) (most : Nat) (w : World) (h : Rr w p s) :
    Calls Tryz.prog 174 #[.pointer (some ⟨p, 0, none⟩), .int .u64 (most : Nat)] w (RdPost w p (uintS most s).1 (.int .u64 ((uintS most s).2 : Nat))) := by
  have hn := bounded_any p s most w h
  obtain ⟨⟨s', o⟩, hq⟩ : ∃ q, boundS most s = q := ⟨_, rfl⟩
  rw [hq] at hn
  rcases o with _ | ⟨u, k⟩
  · have hu : uintS most s = (s', 0) := by unfold uintS; rw [hq]
    dsimp only at hn
    rw [okV_none] at hn
    have Hn := Lib.hid hn
    have Hb := Lib.hid hu
    clear hn hu hq h
    rw [Hb.out]
    go_enter Tryz.func174, Tryz.ntmps174
    go_wp2_with fail
    refine Hn.out.mono ?_
    rintro e w1 ⟨rfl, h1, g1⟩
    have H1 := Lib.hid (And.intro h1 g1)
    clear h1 g1
    go_wp2_with fail
    go_ret
    exact ⟨rfl, H1.out⟩
  · have hu : uintS most s = ((s'.1.drop k, s'.2), u) := by unfold uintS; rw [hq]
    dsimp only at hn
    rw [okV_some] at hn
    obtain ⟨rfl, -, hk, -, -⟩ := boundS_some hq
    have Hn := Lib.hid hn
    have Hb := Lib.hid hu
    have Hk := Lib.hid hk
    clear hn hu hq h hk
    rw [Hb.out]
    go_enter Tryz.func174, Tryz.ntmps174
    go_wp2_with fail
    refine Hn.out.mono ?_
    rintro e w1 ⟨rfl, h1, g1⟩
    obtain ⟨A, n, c, A', c0, f0, hkn, hln, hnc, hcm, hsl, hrr, -⟩ := rest_any h1 Hk.out
    have hg := gb_trans g1 (gb_set w1 p 0 (.slice A' (n - k) (c - k)))
    have H1 := Lib.hid (And.intro hrr hg)
    have hkI : (k : Int) ≤ n := by omega
    clear h1 g1 hrr hg hln hnc hcm
    go_wp2_with fail
    go_ret
    exact ⟨rfl, H1.out⟩
end Go.Proofs.YtmhaahcbmdhinaaGreatDoor

namespace Go.Proofs.YtmhaahcbmdhinaaGreatDoor
open Go.RowKit
set_option maxRecDepth 100000
set_option linter.unusedVariables false
set_option linter.unusedSimpArgs false
set_option maxHeartbeats 800000 in
theorem count_rd (p : Nat) (s : RdS) (most : Nat) (w : World) (h : Rr w p s) (hm : most ≤ 1000000) :
    Calls Tryz.prog 173 #[.pointer (some ⟨p, 0, none⟩), .int .i64 (most : Nat)] w (RdPost w p (countS most s).1 (.int .i64 ((countS most s).2 : Nat))) := by
  have hn := bounded_any p s most w h
  obtain ⟨⟨s', o⟩, hq⟩ : ∃ q, boundS most s = q := ⟨_, rfl⟩
  rw [hq] at hn
  have hmx : max (most : Int) 0 = (most : Int) := by omega
  have hmw : IntKind.u64.wrap (most : Int) = (most : Int) := by rw [IntKind.wrap_u64]; omega
  have hm0 : (0 : Int) ≤ most := by omega
  rcases o with _ | ⟨u, k⟩
  · have hu : countS most s = (s', 0) := by unfold countS; rw [hq]
    dsimp only at hn
    rw [okV_none] at hn
    have Hn := Lib.hid hn
    have Hb := Lib.hid hu
    clear hn hu hq h
    rw [Hb.out]
    go_enter Tryz.func173, Tryz.ntmps173
    go_wp2_with fail
    refine Hn.out.mono ?_
    rintro e w1 ⟨rfl, h1, g1⟩
    have H1 := Lib.hid (And.intro h1 g1)
    clear h1 g1
    go_wp2_with fail
    go_ret
    exact ⟨rfl, H1.out⟩
  · obtain ⟨rfl, hs0, hk, hum, -⟩ := boundS_some hq
    have hu : countS most s' = if s'.1.length - k < u then ((s'.1, 2), 0) else ((s'.1.drop k, s'.2), u) := by unfold countS; rw [hq]
    dsimp only at hn
    rw [okV_some] at hn
    have hf := fun w1 (h1 : Rr w1 p s') => fails_any p s' 2 w1 h1
    rw [hs0] at hf
    simp only [if_true] at hf
    have hd4 : decide ((2 : Int) ≠ 0) = true := rfl
    rw [hd4, errE_ne (by decide)] at hf
    have Hn := Lib.hid hn
    have Hb := Lib.hid hu
    have Hk := Lib.hid hk
    have Hf := Lib.hid hf
    have huw : IntKind.i64.wrap (u : Int) = (u : Int) := by rw [IntKind.wrap_i64]; omega
    clear hn hu hq h hk hf hs0 hd4
    go_enter Tryz.func173, Tryz.ntmps173
    go_wp2_with fail
    refine Hn.out.mono ?_
    rintro e w1 ⟨rfl, h1, g1⟩
    obtain ⟨A, n, c, A', c0, f0, hkn, hln, hnc, hcm, hsl, hrr, -⟩ := rest_any h1 Hk.out
    obtain ⟨d, hd⟩ : ∃ d, n - k = d := ⟨_, rfl⟩
    have hmc : maxLen = 9223372036854775807 := by decide
    have w1' : IntKind.i64.wrap ((n : Int) - (k : Int)) = (d : Int) := by rw [IntKind.wrap_i64]; omega
    have w2' : IntKind.u64.wrap (d : Int) = (d : Int) := by rw [IntKind.wrap_u64]; omega
    have hkI : (k : Int) ≤ n := by omega
    by_cases hlt : d < u
    · have hdN : decide (d < u) = true := decide_eq_true hlt
      have Hf1 := Lib.hid (Hf.out _ h1)
      have G1 := Lib.hid g1
      have Hlt := Lib.hid (show s'.1.length - k < u by omega)
      clear h1 g1 hrr hd hln hnc hcm hmc hlt hsl
      go_wp2_with fail
      refine Hf1.out.mono ?_
      rintro e w2 ⟨rfl, h2, g2⟩
      have H2 := Lib.hid (And.intro h2 (gb_trans G1.out g2))
      clear h2 g2
      go_wp2_with fail
      go_ret
      rw [Hb.out, if_pos Hlt.out]
      exact ⟨rfl, H2.out⟩
    · have hdN : decide (d < u) = false := decide_eq_false hlt
      have hg := gb_trans g1 (gb_set w1 p 0 (.slice A' (n - k) (c - k)))
      have H1 := Lib.hid (And.intro hrr hg)
      have Hlt := Lib.hid (show ¬ s'.1.length - k < u by omega)
      clear h1 g1 hrr hg hln hnc hcm hmc hlt hd
      go_wp2_with fail
      go_ret
      rw [Hb.out, if_neg Hlt.out]
      exact ⟨rfl, H1.out⟩
/-- Bytes of the call's own, the reader being moved on. -/
def TakePost (W : World) (p : Nat) (s : RdS) (b : List UInt8) (e : Ending) (w' : World) : Prop := ∃ A n c, e = .returned (.slice A n c) ∧ w'.ownsRow W.heap.size 5 1 (.slice A n c) n (bs b) ∧ Rr w' p s ∧ W.grownBy w' (some p)
theorem TakePost.none_ {W w' : World} {p : Nat} {s : RdS} (h : Rr w' p s) (hg : W.grownBy w' (some p)) : TakePost W p s [] (.returned (.slice none 0 0)) w' := ⟨none, 0, 0, rfl, World.ownsRow_nil _ _ _ _, h, hg⟩
end Go.Proofs.YtmhaahcbmdhinaaGreatDoor

namespace Go.Proofs.YtmhaahcbmdhinaaGreatDoor
set_option linter.unusedVariables false
set_option linter.unusedSimpArgs false
def decN (acc : Nat) (l : List UInt8) : Nat := l.foldl (fun n c => n * 10 + (c.toNat - 48)) acc
def Digs (l : List UInt8) : Prop := ∀ c ∈ l, isDig c = true
/-- Of equally long rows of digits the greater one is the greater number. -/
def lexLt : List UInt8 → List UInt8 → Bool
  | _, [] => false
  | [], _ :: _ => true
  | a :: x, b :: y => if a.toNat < b.toNat then true else if b.toNat < a.toNat then false else lexLt x y
end Go.Proofs.YtmhaahcbmdhinaaGreatDoor

namespace Go.Proofs.YtmhaahcbmdhinaaGreatDoor
open Go.RowKit
set_option maxRecDepth 100000
set_option linter.unusedVariables false
set_option linter.unusedSimpArgs false
abbrev rvR (A : Option Addr) (n c : Nat) (k : Int) : Value := .agg #[.slice A n c, .int .i64 k]
end Go.Proofs.YtmhaahcbmdhinaaGreatDoor

