/- A pack.Reader: what its acts take off.
   A pack.Reader: numbers up to a bound, counts, bytes.
   A pack.Reader: counts, bytes.
   Plain law of decimal digits: no program in sight.
   The document's reader (tollbarref01): fail, head, digits. -/
import Derived.Test.YtmhaahcbmdhinaaGreatDoorK3
namespace Go.Proofs.YtmhaahcbmdhinaaGreatDoor
open Go.RowKit
set_option maxRecDepth 100000
set_option linter.unusedVariables false
set_option linter.unusedSimpArgs false
theorem headE_cons (x c : UInt8) (r : List UInt8) : headE x (c :: r) = if c = x then 0 else 3 := rfl
theorem dnum_ne {ds : List UInt8} {e : Int} (h : dnum ds = .inl e) : e = 3 := by
  unfold dnum at h
  split at h
  · split at h
    · injection h with h; exact h.symm
    · cases h
  · injection h with h; exact h.symm
theorem dscan_ne {sg : UInt8} : ∀ {l acc : List UInt8} {e : Int}, dscan sg acc l = .inl e → e ≠ 0 := by
  intro l
  induction l with
  | nil => intro acc e h; injection h with h; omega
  | cons c r ih =>
    intro acc e h
    rw [dscan] at h
    split at h
    · have := dnum_ne h; omega
    · split at h
      · injection h with h; omega
      · exact ih h
def okV : Option (Nat × Nat) → Value
  | none => .tuple #[.int .u64 0, .int .i64 0, .bool false]
  | some (n, k) => .tuple #[.int .u64 (n : Nat), .int .i64 (k : Nat), .bool true]
theorem okV_none : okV none = .tuple #[.int .u64 0, .int .i64 0, .bool false] := rfl
theorem okV_some (n k : Nat) : okV (some (n, k)) = .tuple #[.int .u64 (n : Nat), .int .i64 (k : Nat), .bool true] := rfl
theorem RdPost.up {W W1 w' : World} {p : Nat} {s : RdS} {v : Value} {e : Ending} (h : RdPost W1 p s v e w') (hg : W.grownBy W1 (some p)) : RdPost W p s v e w' := ⟨h.1, h.2.1, gb_trans hg h.2.2⟩
def numR (s : RdS) : Int ⊕ (Nat × Nat) → RdS × Option (Nat × Nat)
  | .inl e => ((s.1, e), none)
  | .inr (n, k) => (s, some (n, k + 2))
theorem numR_inl (s : RdS) (e : Int) : numR s (.inl e) = ((s.1, e), none) := rfl
theorem numR_inr (s : RdS) (n k : Nat) : numR s (.inr (n, k)) = (s, some (n, k + 2)) := rfl
theorem numS_eq {x sg : UInt8} {s : RdS} (h : s.2 = 0) : numS x sg s = numR s (pnum x sg s.1) := by
  unfold numS
  rw [if_neg (fun hh => hh h)]
  cases pnum x sg s.1 <;> rfl
theorem number_any (p : Nat) (s : RdS) (x sg : UInt8) (w : World) (h : Rr w p s) :
    Calls Tryz.prog 224 #[.pointer (some ⟨p, 0, none⟩), .string ⟨#[x]⟩, .int .u8 (sg.toNat : Int), .int .i64 1] w (RdPost w p (numS x sg s).1 (okV (numS x sg s).2)) := by
  have hb := begin_any p s x w h
  have hf := fun w1 (hb1 : Below w.heap.size w w1) => fails_any p s (headE x s.1) w1 (h.gb hb1)
  by_cases hs : s.2 = 0
  · rw [hs] at hf
    simp only [if_true] at hf
    by_cases he : headE x s.1 = 0
    · obtain ⟨r, hr⟩ : ∃ r, s.1 = x :: r := by
        cases hl : s.1 with
        | nil => rw [hl] at he; exact absurd (show (12 : Int) = 0 from he) (by decide)
        | cons c r =>
          rw [hl] at he
          by_cases hc : c = x
          · exact ⟨r, by rw [hc]⟩
          · rw [headE_cons, if_neg hc] at he
            omega
      obtain ⟨R, hR⟩ : ∃ R, dscan sg [] r = R := ⟨_, rfl⟩
      have hN : numS x sg s = numR s R := by
        rw [numS_eq hs, hr, pnum, if_pos rfl, hR]
      have hd : ∀ w1, Rr w1 p (s.1, 0) → ∀ A n c, Rd w1 (· < p) 1 A n (bs s.1) → n ≤ c → c ≤ maxLen → Calls Tryz.prog 243 #[.slice A n c, .int .i64 ((1 : Nat) : Int), .int .u8 (sg.toNat : Int)] w1 (fun e w' => e = .returned (numV 1 R) ∧ Below w1.heap.size w1 w') := fun w1 h1 A n c r1 h2 h3 => by
        have := digits_rd A n c s.1 1 sg w1 r1 h2 h3 (by have := r1.blen; rw [hr] at this; simp at this; omega) h1.ev
        rw [hr, List.drop_one, List.tail_cons, hR] at this
        exact this
      rw [he] at hb hf
      rw [errE0] at hb hf
      have hne : ∀ e, R = .inl e → e ≠ 0 := fun e h => dscan_ne (hR.trans h)
      have Hb := Lib.hid hb
      have Hf := Lib.hid hf
      have Hd := Lib.hid hd
      have HN := Lib.hid hN
      have Hne := Lib.hid hne
      have hs0 : s = (s.1, 0) := by rw [← hs]
      have HS := Lib.hid hs0
      clear hb hf hd hN hne hR hr h hs he hs0
      rw [HN.out]
      go_enter Tryz.func224, Tryz.ntmps224
      go_wp2_with fail
      refine Hb.out.mono ?_
      rintro e w1 ⟨rfl, hb1⟩
      go_wp2_with fail
      refine (Hf.out _ hb1).mono ?_
      rintro e w2 ⟨rfl, h2, g2⟩
      have G2 := gb_trans (below_gb (p := p) hb1) g2
      obtain ⟨A, n, c, c0, c1, f0, f1, r2, n1, n2⟩ := h2.cells
      have hdg := Hd.out _ h2 A n c r2 n1 n2
      have Hdg := Lib.hid hdg
      have H2 := Lib.hid (And.intro h2 G2)
      clear hb1 g2 h2 G2 r2 n1 n2 hdg c1 f0 f1
      go_wp2_with fail
      refine Hdg.out.mono ?_
      rintro e w3 ⟨rfl, hb3⟩
      have h3 := H2.out.1.gb hb3
      have G3 := gb_trans H2.out.2 (below_gb hb3)
      rcases R with e | ⟨u, k⟩
      · have hf3 := fails_any p (s.1, 0) e w3 h3
        have hd3 : decide (e ≠ 0) = true := decide_eq_true (Hne.out e rfl)
        simp only [if_true] at hf3
        rw [hd3] at hf3
        have Hf3 := Lib.hid hf3
        have HG := Lib.hid G3
        clear hf3 h3 G3 hb3 hd3 c0
        rw [numV_inl, numR_inl]
        go_wp2_with fail
        refine Hf3.out.mono ?_
        rintro e' w4 ⟨rfl, h4, g4⟩
        have H4 := Lib.hid (And.intro h4 (gb_trans HG.out g4))
        clear h4 g4
        go_wp2_with fail
        go_ret3
        exact ⟨rfl, H4.out⟩
      · have hf3 := fails_any p (s.1, 0) 0 w3 h3
        simp only [if_true] at hf3
        rw [errE0] at hf3
        have Hf3 := Lib.hid hf3
        have HG := Lib.hid G3
        clear hf3 h3 G3 hb3 c0
        rw [numV_inr, numR_inr]
        go_wp2_with fail
        refine Hf3.out.mono ?_
        rintro e' w4 ⟨rfl, h4, g4⟩
        have H4 := Lib.hid (And.intro h4 (gb_trans HG.out g4))
        clear h4 g4
        go_wp2_with fail
        go_ret3
        have h5 := H4.out.1
        rw [← HS.out] at h5
        refine ⟨?_, h5, H4.out.2⟩
        have e2 : ((1 + k + 1 : Nat) : Int) = ((k + 2 : Nat) : Int) := by omega
        rw [numR_inr, okV_some, ← e2]
        rfl
    · have hN : numS x sg s = ((s.1, headE x s.1), none) := by
        rw [numS_eq hs]
        have hp : pnum x sg s.1 = .inl (headE x s.1) := by
          cases hl : s.1 with
          | nil => rfl
          | cons c r =>
            rw [hl] at he
            by_cases hc : c = x
            · rw [headE_cons, if_pos hc] at he
              exact absurd rfl he
            · rw [headE_cons, pnum, if_neg hc, if_neg hc]
        rw [hp, numR_inl]
      have hdt : decide (headE x s.1 ≠ 0) = true := decide_eq_true he
      rw [hdt] at hf
      rw [errE_ne he] at hb hf
      have Hb := Lib.hid hb
      have Hf := Lib.hid hf
      have HN := Lib.hid hN
      clear hb hf hN h hs he hdt
      rw [HN.out]
      go_enter Tryz.func224, Tryz.ntmps224
      go_wp2_with fail
      refine Hb.out.mono ?_
      rintro e w1 ⟨rfl, hb1⟩
      go_wp2_with fail
      refine (Hf.out _ hb1).mono ?_
      rintro e w2 ⟨rfl, h2, g2⟩
      have H2 := Lib.hid (And.intro h2 (gb_trans (below_gb (p := p) hb1) g2))
      clear h2 g2 hb1
      go_wp2_with fail
      go_ret3
      exact ⟨rfl, H2.out⟩
  · have hN : numS x sg s = (s, none) := by
      unfold numS
      rw [if_pos hs]
    simp only [hs, if_false] at hf
    have hdt : decide (s.2 ≠ 0) = true := decide_eq_true hs
    rw [hdt] at hf
    have Hb := Lib.hid hb
    have Hf := Lib.hid hf
    have HN := Lib.hid hN
    clear hb hf hN h hs hdt
    rw [HN.out]
    have hek : errE (headE x s.1) = .nilIface ∨ ∃ k, errE (headE x s.1) = .iface 105 (.int .i64 k) := by
      by_cases h0 : headE x s.1 = 0
      · exact .inl (if_pos h0)
      · exact .inr ⟨_, if_neg h0⟩
    rcases hek with hek | ⟨k, hek⟩
    all_goals
      rw [hek] at Hb Hf
      clear hek
      go_enter Tryz.func224, Tryz.ntmps224
      go_wp2_with fail
      refine Hb.out.mono ?_
      rintro e w1 ⟨rfl, hb1⟩
      go_wp2_with fail
      refine (Hf.out _ hb1).mono ?_
      rintro e w2 ⟨rfl, h2, g2⟩
      have H2 := Lib.hid (And.intro h2 (gb_trans (below_gb (p := p) hb1) g2))
      clear h2 g2 hb1
      go_wp2_with fail
      go_ret3
      exact ⟨rfl, H2.out⟩
end Go.Proofs.YtmhaahcbmdhinaaGreatDoor
namespace Go.Proofs.YtmhaahcbmdhinaaGreatDoor
open Go.RowKit
set_option maxRecDepth 100000
set_option linter.unusedVariables false
set_option linter.unusedSimpArgs false
theorem numS_some {x sg : UInt8} {s s' : RdS} {n k : Nat} (h : numS x sg s = (s', some (n, k))) : s' = s ∧ s.2 = 0 ∧ k ≤ s.1.length ∧ n < 18446744073709551616 ∧ k ≤ 22 := by
  by_cases hs : s.2 = 0
  · rw [numS_eq hs] at h
    cases hp : pnum x sg s.1 with
    | inl e => rw [hp, numR_inl] at h; cases h
    | inr q =>
      obtain ⟨u, j⟩ := q
      rw [hp, numR_inr] at h
      injection h with h1 h2
      injection h2 with h2
      injection h2 with h2 h3
      subst h1 h2 h3
      refine ⟨rfl, hs, ?_⟩
      cases hl : s.1 with
      | nil => rw [hl] at hp; cases hp
      | cons c r =>
        rw [hl, pnum] at hp
        split at hp
        · have := dscan_len (by simp) hp
          simp only [List.length_nil, List.length_cons] at this ⊢
          omega
        · cases hp
  · unfold numS at h
    rw [if_pos hs] at h
    cases h
theorem numS_none {x sg : UInt8} {s s' : RdS} (h : numS x sg s = (s', none)) : s'.2 ≠ 0 ∧ s'.1 = s.1 := by
  by_cases hs : s.2 = 0
  · rw [numS_eq hs] at h
    cases hp : pnum x sg s.1 with
    | inl e =>
      rw [hp, numR_inl] at h
      injection h with h1 h2
      subst h1
      refine ⟨?_, rfl⟩
      cases hl : s.1 with
      | nil => rw [hl] at hp; injection hp with hp; show e ≠ 0; omega
      | cons c r =>
        rw [hl, pnum] at hp
        split at hp
        · exact dscan_ne hp
        · injection hp with hp; show e ≠ 0; omega
    | inr q =>
      obtain ⟨u, j⟩ := q
      rw [hp, numR_inr] at h
      cases h
  · unfold numS at h
    rw [if_pos hs] at h
    injection h with h1 h2
    subst h1
    exact ⟨hs, rfl⟩
def boundR (most : Nat) (s' : RdS) : Option (Nat × Nat) → RdS × Option (Nat × Nat)
  | none => (s', none)
  | some (n, k) => if most < n then ((s'.1, 4), none) else (s', some (n, k))
theorem boundR_none (most : Nat) (s' : RdS) : boundR most s' none = (s', none) := rfl
theorem boundR_some (most n k : Nat) (s' : RdS) : boundR most s' (some (n, k)) = if most < n then ((s'.1, 4), none) else (s', some (n, k)) := rfl
theorem boundS_eq {most : Nat} {s s' : RdS} {o : Option (Nat × Nat)} (h : numS 110 59 s = (s', o)) : boundS most s = boundR most s' o := by
  unfold boundS
  rw [h]
  cases o <;> rfl
theorem boundS_some {most : Nat} {s s' : RdS} {n k : Nat} (h : boundS most s = (s', some (n, k))) : s' = s ∧ s.2 = 0 ∧ k ≤ s.1.length ∧ n ≤ most ∧ k ≤ 22 := by
  obtain ⟨⟨s1, o⟩, hn⟩ : ∃ q, numS 110 59 s = q := ⟨_, rfl⟩
  rw [boundS_eq hn] at h
  cases o with
  | none => rw [boundR_none] at h; cases h
  | some q =>
    obtain ⟨u, j⟩ := q
    have := numS_some hn
    rw [boundR_some] at h
    split at h
    · cases h
    · injection h with h1 h2
      injection h2 with h2
      injection h2 with h2 h3
      subst h1 h2 h3
      exact ⟨this.1, this.2.1, this.2.2.1, by omega, this.2.2.2.2⟩
theorem boundS_none {most : Nat} {s s' : RdS} (h : boundS most s = (s', none)) : s'.2 ≠ 0 := by
  obtain ⟨⟨s1, o⟩, hn⟩ : ∃ q, numS 110 59 s = q := ⟨_, rfl⟩
  rw [boundS_eq hn] at h
  cases o with
  | none => rw [boundR_none] at h; injection h with h1; subst h1; exact (numS_none hn).1
  | some q =>
    obtain ⟨u, j⟩ := q
    rw [boundR_some] at h
    split at h
    · injection h with h1; subst h1; exact (show (4 : Int) ≠ 0 by decide)
    · cases h
theorem bounded_any (p : Nat) (s : RdS) (most : Nat) (w : World) (h : Rr w p s) :
    Calls Tryz.prog 210 #[.pointer (some ⟨p, 0, none⟩), .int .u64 (most : Nat)] w (RdPost w p (boundS most s).1 (okV (boundS most s).2)) := by
  have hn := number_any p s 110 59 w h
  obtain ⟨⟨s', o⟩, hq⟩ : ∃ q, numS 110 59 s = q := ⟨_, rfl⟩
  have hb := boundS_eq (most := most) hq
  rw [hq] at hn
  rcases o with _ | ⟨u, k⟩
  · dsimp only at hn
    rw [boundR_none] at hb
    rw [okV_none] at hn
    have Hn := Lib.hid hn
    have Hb := Lib.hid hb
    clear hn hb hq h
    rw [Hb.out]
    go_enter Tryz.func210, Tryz.ntmps210
    go_wp2_with fail
    refine Hn.out.mono ?_
    rintro e w1 ⟨rfl, h1, g1⟩
    have H1 := Lib.hid (And.intro h1 g1)
    clear h1 g1
    go_wp2_with fail
    go_ret3
    exact ⟨rfl, H1.out⟩
  · dsimp only at hn
    rw [boundR_some] at hb
    rw [okV_some] at hn
    obtain ⟨rfl, hs0, -, hu, hk⟩ := numS_some hq
    by_cases hm : most < u
    · rw [if_pos hm] at hb
      have hmN : decide (most < u) = true := decide_eq_true hm
      have hf := fun w1 (h1 : Rr w1 p s') => fails_any p s' 4 w1 h1
      rw [hs0] at hf
      simp only [if_true] at hf
      have hd4 : decide ((4 : Int) ≠ 0) = true := rfl
      rw [hd4, errE_ne (by decide)] at hf
      have Hn := Lib.hid hn
      have Hb := Lib.hid hb
      have Hf := Lib.hid hf
      clear hn hb hq h hf hs0 hd4 hm
      rw [Hb.out]
      go_enter Tryz.func210, Tryz.ntmps210
      go_wp2_with fail
      refine Hn.out.mono ?_
      rintro e w1 ⟨rfl, h1, g1⟩
      have Hf1 := Lib.hid (Hf.out _ h1)
      have G1 := Lib.hid g1
      clear h1 g1
      go_wp2_with fail
      refine Hf1.out.mono ?_
      rintro e w2 ⟨rfl, h2, g2⟩
      have H2 := Lib.hid (And.intro h2 (gb_trans G1.out g2))
      clear h2 g2
      go_wp2_with fail
      go_ret3
      exact ⟨rfl, H2.out⟩
    · rw [if_neg hm] at hb
      have hmI : decide ((most : Int) < (u : Int)) = false := decide_eq_false (by omega)
      have hmN : decide (most < u) = false := decide_eq_false hm
      have Hn := Lib.hid hn
      have Hb := Lib.hid hb
      clear hn hb hq h hs0 hm
      rw [Hb.out]
      go_enter Tryz.func210, Tryz.ntmps210
      go_wp2_with fail
      refine Hn.out.mono ?_
      rintro e w1 ⟨rfl, h1, g1⟩
      have H1 := Lib.hid (And.intro h1 g1)
      clear h1 g1
      go_wp2_with fail
      go_ret3
      exact ⟨rfl, H1.out⟩
/-- The rest from k on, stored. -/
theorem rest_any {W : World} {p : Nat} {s : RdS} (h : Rr W p s) {k : Nat} (hk : k ≤ s.1.length) : ∃ A n c A', W.cell? ⟨p, 0, none⟩ = some (.slice A n c) ∧ W.frozen? ⟨p, 0, none⟩ = false ∧ k ≤ n ∧ s.1.length = n ∧ n ≤ c ∧ c ≤ maxLen ∧
    (∀ W', (Instr.sliceAt 26 (.slice A n c) (some (.int .i64 (k : Int))) none none).run Tryz.prog W' = .ok (.slice A' (n - k) (c - k)) W') ∧ Rr (W.setCell ⟨p, 0, none⟩ (.slice A' (n - k) (c - k))) p (s.1.drop k, s.2) ∧ Rd W (· < p) 1 A n (bs s.1) := by
  obtain ⟨A, n, c, c0, c1, f0, f1, hr, h1, h2⟩ := h.cells
  have hl := hr.blen
  have hb := hr.bsub (i := k) (k := n - k) (m := c) (by omega) (by omega)
  rw [List.take_of_length_le (by rw [List.length_drop]; omega)] at hb
  refine ⟨A, n, c, if c = k then A else A.map (·.add k), c0, f0, by omega, hl, h1, h2, fun W' => ?_, h.to hb (by omega) (by omega), hr⟩
  have := run_slice_lo (P := Tryz.prog) 26 Tryz.underlying26 (size := 1) (by kernel_rfl) A n c W' k (by omega)
  rw [Nat.mul_one] at this
  exact this
theorem uint_rd (p : Nat) (s : RdS) (most : Nat) (w : World) (h : Rr w p s) :
    Calls Tryz.prog 174 #[.pointer (some ⟨p, 0, none⟩), .int .u64 (most : Nat)] w (RdPost w p (uintS most s).1 (.int .u64 ((uintS most s).2 : Nat))) := by
  have hn := bounded_any p s most w h
  obtain ⟨⟨s', o⟩, hq⟩ : ∃ q, boundS most s = q := ⟨_, rfl⟩
  rw [hq] at hn
  rcases o with _ | ⟨u, k⟩
  · have hu : uintS most s = (s', 0) := by unfold uintS; rw [hq]
    dsimp only at hn
    rw [okV_none] at hn
    have Hn := Lib.hid hn
    have Hb := Lib.hid hu
    clear hn hu hq h
    rw [Hb.out]
    go_enter Tryz.func174, Tryz.ntmps174
    go_wp2_with fail
    refine Hn.out.mono ?_
    rintro e w1 ⟨rfl, h1, g1⟩
    have H1 := Lib.hid (And.intro h1 g1)
    clear h1 g1
    go_wp2_with fail
    go_ret
    exact ⟨rfl, H1.out⟩
  · have hu : uintS most s = ((s'.1.drop k, s'.2), u) := by unfold uintS; rw [hq]
    dsimp only at hn
    rw [okV_some] at hn
    obtain ⟨rfl, -, hk, -, -⟩ := boundS_some hq
    have Hn := Lib.hid hn
    have Hb := Lib.hid hu
    have Hk := Lib.hid hk
    clear hn hu hq h hk
    rw [Hb.out]
    go_enter Tryz.func174, Tryz.ntmps174
    go_wp2_with fail
    refine Hn.out.mono ?_
    rintro e w1 ⟨rfl, h1, g1⟩
    obtain ⟨A, n, c, A', c0, f0, hkn, hln, hnc, hcm, hsl, hrr, -⟩ := rest_any h1 Hk.out
    have hg := gb_trans g1 (gb_set w1 p 0 (.slice A' (n - k) (c - k)))
    have H1 := Lib.hid (And.intro hrr hg)
    have hkI : (k : Int) ≤ n := by omega
    clear h1 g1 hrr hg hln hnc hcm
    go_wp2_with fail
    go_ret
    exact ⟨rfl, H1.out⟩
end Go.Proofs.YtmhaahcbmdhinaaGreatDoor
namespace Go.Proofs.YtmhaahcbmdhinaaGreatDoor
open Go.RowKit
set_option maxRecDepth 100000
set_option linter.unusedVariables false
set_option linter.unusedSimpArgs false
set_option maxHeartbeats 800000 in
theorem count_rd (p : Nat) (s : RdS) (most : Nat) (w : World) (h : Rr w p s) (hm : most ≤ 1000000) :
    Calls Tryz.prog 173 #[.pointer (some ⟨p, 0, none⟩), .int .i64 (most : Nat)] w (RdPost w p (countS most s).1 (.int .i64 ((countS most s).2 : Nat))) := by
  have hn := bounded_any p s most w h
  obtain ⟨⟨s', o⟩, hq⟩ : ∃ q, boundS most s = q := ⟨_, rfl⟩
  rw [hq] at hn
  have hmx : max (most : Int) 0 = (most : Int) := by omega
  have hmw : IntKind.u64.wrap (most : Int) = (most : Int) := by rw [IntKind.wrap_u64]; omega
  have hm0 : (0 : Int) ≤ most := by omega
  rcases o with _ | ⟨u, k⟩
  · have hu : countS most s = (s', 0) := by unfold countS; rw [hq]
    dsimp only at hn
    rw [okV_none] at hn
    have Hn := Lib.hid hn
    have Hb := Lib.hid hu
    clear hn hu hq h
    rw [Hb.out]
    go_enter Tryz.func173, Tryz.ntmps173
    go_wp2_with fail
    refine Hn.out.mono ?_
    rintro e w1 ⟨rfl, h1, g1⟩
    have H1 := Lib.hid (And.intro h1 g1)
    clear h1 g1
    go_wp2_with fail
    go_ret
    exact ⟨rfl, H1.out⟩
  · obtain ⟨rfl, hs0, hk, hum, -⟩ := boundS_some hq
    have hu : countS most s' = if s'.1.length - k < u then ((s'.1, 2), 0) else ((s'.1.drop k, s'.2), u) := by unfold countS; rw [hq]
    dsimp only at hn
    rw [okV_some] at hn
    have hf := fun w1 (h1 : Rr w1 p s') => fails_any p s' 2 w1 h1
    rw [hs0] at hf
    simp only [if_true] at hf
    have hd4 : decide ((2 : Int) ≠ 0) = true := rfl
    rw [hd4, errE_ne (by decide)] at hf
    have Hn := Lib.hid hn
    have Hb := Lib.hid hu
    have Hk := Lib.hid hk
    have Hf := Lib.hid hf
    have huw : IntKind.i64.wrap (u : Int) = (u : Int) := by rw [IntKind.wrap_i64]; omega
    clear hn hu hq h hk hf hs0 hd4
    go_enter Tryz.func173, Tryz.ntmps173
    go_wp2_with fail
    refine Hn.out.mono ?_
    rintro e w1 ⟨rfl, h1, g1⟩
    obtain ⟨A, n, c, A', c0, f0, hkn, hln, hnc, hcm, hsl, hrr, -⟩ := rest_any h1 Hk.out
    obtain ⟨d, hd⟩ : ∃ d, n - k = d := ⟨_, rfl⟩
    have hmc : maxLen = 9223372036854775807 := by decide
    have w1' : IntKind.i64.wrap ((n : Int) - (k : Int)) = (d : Int) := by rw [IntKind.wrap_i64]; omega
    have w2' : IntKind.u64.wrap (d : Int) = (d : Int) := by rw [IntKind.wrap_u64]; omega
    have hkI : (k : Int) ≤ n := by omega
    by_cases hlt : d < u
    · have hdN : decide (d < u) = true := decide_eq_true hlt
      have Hf1 := Lib.hid (Hf.out _ h1)
      have G1 := Lib.hid g1
      have Hlt := Lib.hid (show s'.1.length - k < u by omega)
      clear h1 g1 hrr hd hln hnc hcm hmc hlt hsl
      go_wp2_with fail
      refine Hf1.out.mono ?_
      rintro e w2 ⟨rfl, h2, g2⟩
      have H2 := Lib.hid (And.intro h2 (gb_trans G1.out g2))
      clear h2 g2
      go_wp2_with fail
      go_ret
      rw [Hb.out, if_pos Hlt.out]
      exact ⟨rfl, H2.out⟩
    · have hdN : decide (d < u) = false := decide_eq_false hlt
      have hg := gb_trans g1 (gb_set w1 p 0 (.slice A' (n - k) (c - k)))
      have H1 := Lib.hid (And.intro hrr hg)
      have Hlt := Lib.hid (show ¬ s'.1.length - k < u by omega)
      clear h1 g1 hrr hg hln hnc hcm hmc hlt hd
      go_wp2_with fail
      go_ret
      rw [Hb.out, if_neg Hlt.out]
      exact ⟨rfl, H1.out⟩
/-- Bytes of the call's own, the reader being moved on. -/
def TakePost (W : World) (p : Nat) (s : RdS) (b : List UInt8) (e : Ending) (w' : World) : Prop := ∃ A n c, e = .returned (.slice A n c) ∧ w'.ownsRow W.heap.size 5 1 (.slice A n c) n (bs b) ∧ Rr w' p s ∧ W.grownBy w' (some p)
theorem TakePost.none_ {W w' : World} {p : Nat} {s : RdS} (h : Rr w' p s) (hg : W.grownBy w' (some p)) : TakePost W p s [] (.returned (.slice none 0 0)) w' := ⟨none, 0, 0, rfl, World.ownsRow_nil _ _ _ _, h, hg⟩
set_option maxHeartbeats 1600000 in
theorem run_rd (p : Nat) (s : RdS) (most : Nat) (w : World) (h : Rr w p s) (hm : most ≤ 2000000) :
    Calls Tryz.prog 216 #[.pointer (some ⟨p, 0, none⟩), .string ⟨#[98]⟩, .int .i64 (most : Nat)] w (TakePost w p (bytesS most s).1 (bytesS most s).2) := by
  have hn := number_any p s 98 58 w h
  obtain ⟨⟨s', o⟩, hq⟩ : ∃ q, numS 98 58 s = q := ⟨_, rfl⟩
  rw [hq] at hn
  have hmw : IntKind.u64.wrap (most : Int) = (most : Int) := by rw [IntKind.wrap_u64]; omega
  have hm0 : decide ((most : Int) < 0) = false := decide_eq_false (by omega)
  obtain ⟨EV, hEV⟩ : ∃ EV, errE s.2 = EV := ⟨_, rfl⟩
  have hev : EV = .nilIface ∨ ∃ k, EV = .iface 105 (.int .i64 k) := by
    rw [← hEV]
    by_cases h0 : s.2 = 0
    · exact .inl (if_pos h0)
    · exact .inr ⟨_, if_neg h0⟩
  obtain ⟨A0, n0, c0', c0, c1, f0, f1, -⟩ := h.cells
  rw [hEV] at c1
  rcases o with _ | ⟨u, k⟩
  · have hu : bytesS most s = (s', []) := by unfold bytesS; rw [hq]
    dsimp only at hn
    rw [okV_none] at hn
    rw [hu]
    have Hn := Lib.hid hn
    clear hn hu hq h hEV
    rcases hev with rfl | ⟨k', rfl⟩
    all_goals
      go_enter Tryz.func216, Tryz.ntmps216
      go_wp2_with fail
      refine Hn.out.mono ?_
      rintro e w1 ⟨rfl, h1, g1⟩
      have H1 := Lib.hid (And.intro h1 g1)
      clear h1 g1
      go_wp2_with fail
      go_ret
      exact TakePost.none_ H1.out.1 H1.out.2
  · obtain ⟨rfl, hs0, hk, -, hk22⟩ := numS_some hq
    have hE0 : EV = .nilIface := by rw [← hEV, hs0]; rfl
    subst hE0
    clear hev
    have hu : bytesS most s' = if most < u then ((s'.1, 2), []) else if s'.1.length - k < u then ((s'.1, 12), []) else ((s'.1.drop (k + u), s'.2), (s'.1.drop k).take u) := by unfold bytesS; rw [hq]
    dsimp only at hn
    rw [okV_some] at hn
    have hf := fun (e : Int) (he : e ≠ 0) w1 (h1 : Rr w1 p s') => (by
      have := fails_any p s' e w1 h1
      rw [hs0] at this
      simp only [if_true] at this
      rw [show decide (e ≠ 0) = true from decide_eq_true he, errE_ne he] at this
      exact this : Calls Tryz.prog 211 #[.pointer (some ⟨p, 0, none⟩), .iface 105 (.int .i64 e)] w1 (RdPost w1 p (s'.1, e) (.bool true)))
    have Hn := Lib.hid hn
    have Hb := Lib.hid hu
    have Hk := Lib.hid hk
    have Hf2 := Lib.hid (hf 2 (by decide))
    have Hf12 := Lib.hid (hf 12 (by decide))
    clear hn hu hq h hk hf hs0 hEV
    by_cases hbig : most < u
    · have hdN : decide (most < u) = true := decide_eq_true hbig
      have Hbig := Lib.hid hbig
      clear hbig
      go_enter Tryz.func216, Tryz.ntmps216
      go_wp2_with fail
      refine Hn.out.mono ?_
      rintro e w1 ⟨rfl, h1, g1⟩
      have Hf1 := Lib.hid (Hf2.out _ h1)
      have G1 := Lib.hid g1
      clear h1 g1
      go_wp2_with fail
      refine Hf1.out.mono ?_
      rintro e w2 ⟨rfl, h2, g2⟩
      have H2 := Lib.hid (And.intro h2 (gb_trans G1.out g2))
      clear h2 g2
      go_wp2_with fail
      go_ret
      rw [Hb.out, if_pos Hbig.out]
      exact TakePost.none_ H2.out.1 H2.out.2
    have hdN : decide (most < u) = false := decide_eq_false hbig
    have Hbig := Lib.hid hbig
    have hum : u ≤ 2000000 := by omega
    clear hbig
    have huw : IntKind.i64.wrap (u : Int) = (u : Int) := by rw [IntKind.wrap_i64]; omega
    go_enter Tryz.func216, Tryz.ntmps216
    go_wp2_with fail
    refine Hn.out.mono ?_
    rintro e w1 ⟨rfl, h1, g1⟩
    clear c0 c1 f0 f1
    obtain ⟨A, n, c, A', c0, f0, hkn, hln, hnc, hcm, -, -, hr1⟩ := rest_any h1 Hk.out
    obtain ⟨d, hd⟩ : ∃ d, n - k = d := ⟨_, rfl⟩
    have hmc : maxLen = 9223372036854775807 := by decide
    have w1' : IntKind.i64.wrap ((n : Int) - (k : Int)) = (d : Int) := by rw [IntKind.wrap_i64]; omega
    have w2' : IntKind.u64.wrap (d : Int) = (d : Int) := by rw [IntKind.wrap_u64]; omega
    by_cases hlt : d < u
    · have hdN2 : decide (d < u) = true := decide_eq_true hlt
      have Hf1 := Lib.hid (Hf12.out _ h1)
      have G1 := Lib.hid g1
      have Hlt := Lib.hid (show s'.1.length - k < u by omega)
      clear h1 g1 hd hln hnc hcm hmc hlt hr1
      go_wp2_with fail
      refine Hf1.out.mono ?_
      rintro e w2 ⟨rfl, h2, g2⟩
      have H2 := Lib.hid (And.intro h2 (gb_trans G1.out g2))
      clear h2 g2
      go_wp2_with fail
      go_ret
      rw [Hb.out, if_neg Hbig.out, if_pos Hlt.out]
      exact TakePost.none_ H2.out.1 H2.out.2
    have hdN2 : decide (d < u) = false := decide_eq_false hlt
    have Hlt := Lib.hid (show ¬ s'.1.length - k < u by omega)
    obtain ⟨z, hz⟩ : ∃ z, z = k + u := ⟨_, rfl⟩
    have hzw : IntKind.i64.wrap ((k : Int) + (u : Int)) = (z : Int) := by rw [IntKind.wrap_i64]; omega
    have hsl : ∀ W, (Instr.sliceAt 26 (.slice A n c) (some (.int .i64 (k : Int))) (some (.int .i64 (z : Int))) none).run Tryz.prog W = .ok (.slice (if c = k then A else A.map (·.add (k * 1))) (z - k) (c - k)) W := fun W => run_slice_lohi (P := Tryz.prog) 26 Tryz.underlying26 (size := 1) (by kernel_rfl) A n c W k z (by omega) (by omega)
    have hrs := hr1.bsub (i := k) (k := u) (m := c) (by omega) (by omega)
    rw [show z - k = u by omega, Nat.mul_one] at hsl
    generalize (if c = k then A else A.map (·.add k)) = A5 at hsl hrs
    have hcl := clone_any A5 u (c - k) (bs ((s'.1.drop k).take u)) w1 hrs (bs_one _) (by omega)
    have Hcl := Lib.hid hcl
    have H1 := Lib.hid (And.intro h1 g1)
    have Hz := Lib.hid (And.intro hz (show z ≤ s'.1.length by omega))
    have hkz : (k : Int) ≤ z := by omega
    have hzc : (z : Int) ≤ c := by omega
    clear hcl h1 g1 hrs hd hln hnc hcm hmc hlt hr1 hz
    go_wp2_with fail
    refine Hcl.out.mono ?_
    rintro e w2 ⟨A2, c2, rfl, ho2, hb2⟩
    have h2 := H1.out.1.gb hb2
    clear c0 f0
    obtain ⟨A3, n3, c3, A4, c0, f0, hkn3, hln3, hnc3, hcm3, hsl3, hrr3, -⟩ := rest_any h2 Hz.out.2
    have hpl := H1.out.1.lt
    have hg3 := gb_trans (gb_trans H1.out.2 (below_gb hb2)) (gb_set w2 p 0 (.slice A4 (n3 - z) (c3 - z)))
    have ho3 : (w2.setCell ⟨p, 0, none⟩ (.slice A4 (n3 - z) (c3 - z))).ownsRow w.heap.size 5 1 (.slice A2 u c2) u (bs ((s'.1.drop k).take u)) := by
      have hsz := H1.out.2.size
      refine World.ownsRow.kept ?_ (gb_set w2 p 0 _) ?_
      · refine ⟨ho2.1, ?_⟩
        rcases ho2.2 with hn | ⟨g, cap, cur, hv, hB, rest⟩
        · exact .inl hn
        · exact .inr ⟨g, cap, cur, hv, by omega, rest⟩
      · rcases A2 with _ | a
        · exact .inl rfl
        · right
          intro e
          have := (own_lt ho2 a.block rfl).1
          have e' : some a.block = some p := e
          injection e' with e'
          omega
    have H3 := Lib.hid (And.intro ho3 (And.intro hrr3 hg3))
    have hkz3 : (z : Int) ≤ n3 := by omega
    clear h2 hb2 ho2 hrr3 hg3 ho3 hln3 hnc3 hcm3 hpl
    go_wp2_with fail
    go_ret
    rw [Hb.out, if_neg Hbig.out, if_neg Hlt.out, ← Hz.out.1]
    exact ⟨A2, u, c2, rfl, H3.out⟩
theorem bytes_rd (p : Nat) (s : RdS) (most : Nat) (w : World) (h : Rr w p s) (hm : most ≤ 2000000) :
    Calls Tryz.prog 182 #[.pointer (some ⟨p, 0, none⟩), .int .i64 (most : Nat)] w (TakePost w p (bytesS most s).1 (bytesS most s).2) := by
  have hr := run_rd p s most w h hm
  have Hr := Lib.hid hr
  clear hr h
  go_enter Tryz.func182, Tryz.ntmps182
  go_wp2_with fail
  refine Hr.out.mono ?_
  rintro e w1 ⟨A, n, c, rfl, h1⟩
  go_wp2_with fail
  go_ret
  exact ⟨A, n, c, rfl, h1⟩
end Go.Proofs.YtmhaahcbmdhinaaGreatDoor
namespace Go.Proofs.YtmhaahcbmdhinaaGreatDoor
set_option linter.unusedVariables false
set_option linter.unusedSimpArgs false
def decN (acc : Nat) (l : List UInt8) : Nat := l.foldl (fun n c => n * 10 + (c.toNat - 48)) acc
theorem decN_nil (acc : Nat) : decN acc [] = acc := rfl
theorem decN_cons (acc : Nat) (c : UInt8) (r : List UInt8) : decN acc (c :: r) = decN (acc * 10 + (c.toNat - 48)) r := by unfold decN; rw [List.foldl_cons]
theorem decN_ge (l : List UInt8) : ∀ (acc : Nat), acc ≤ decN acc l := by
  induction l with
  | nil => intro acc; rw [decN_nil]; exact Nat.le_refl _
  | cons c r ih =>
    intro acc
    have := ih (acc * 10 + (c.toNat - 48))
    rw [decN_cons]
    omega
theorem decN_snoc : ∀ (l : List UInt8) (acc : Nat) (c : UInt8), decN acc (l ++ [c]) = decN acc l * 10 + (c.toNat - 48)
  | [], acc, c => by rw [List.nil_append, decN_cons, decN_nil, decN_nil]
  | x :: r, acc, c => by
    rw [List.cons_append, decN_cons, decN_cons, decN_snoc r]
theorem decN_acc : ∀ (l : List UInt8) (acc : Nat), decN acc l = acc * 10 ^ l.length + decN 0 l
  | [], acc => by simp [decN_nil]
  | c :: r, acc => by
    rw [decN_cons, decN_cons, decN_acc r (acc * 10 + (c.toNat - 48)), decN_acc r (0 * 10 + (c.toNat - 48)), List.length_cons, Nat.pow_succ]
    rw [Nat.add_mul, Nat.zero_mul, Nat.zero_add]
    have : acc * 10 * 10 ^ r.length = acc * (10 ^ r.length * 10) := by rw [Nat.mul_assoc, Nat.mul_comm 10]
    omega
def Digs (l : List UInt8) : Prop := ∀ c ∈ l, isDig c = true
theorem isDig_iff {c : UInt8} : isDig c = true ↔ 48 ≤ c.toNat ∧ c.toNat ≤ 57 := by
  unfold isDig
  simp only [Bool.and_eq_true, decide_eq_true_eq]
theorem decN_lt : ∀ (l : List UInt8), Digs l → decN 0 l < 10 ^ l.length
  | [], _ => by simp [decN_nil]
  | c :: r, h => by
    have h1 := decN_lt r fun x hx => h x (List.mem_cons_of_mem _ hx)
    have h2 := isDig_iff.1 (h c (by simp))
    rw [decN_cons, decN_acc, List.length_cons, Nat.pow_succ]
    have : (0 * 10 + (c.toNat - 48)) * 10 ^ r.length ≤ 9 * 10 ^ r.length := Nat.mul_le_mul_right _ (by omega)
    omega
theorem parse_dig : ∀ (l : List UInt8) (acc : Nat), Digs l → acc < 18446744073709551616 → Lib.parseUint10 acc l = if decN acc l < 18446744073709551616 then .ok (decN acc l) else .range
  | [], acc, _, ha => by
    rw [Lib.parseUint10, decN_nil, if_pos ha]
  | c :: r, acc, h, ha => by
    have h2 := isDig_iff.1 (h c (by simp))
    have h3 := decN_ge r (acc * 10 + (c.toNat - 48))
    rw [Lib.parseUint10, if_pos h2, decN_cons]
    split
    · rw [if_neg (by omega)]
    · split
      · rw [if_neg (by omega)]
      · exact parse_dig r _ (fun x hx => h x (List.mem_cons_of_mem _ hx)) (by omega)
theorem parse_digs {l : List UInt8} (h : Digs l) : Lib.parseUintB 64 l = if l = [] then Lib.parseUintB 64 [] else if decN 0 l < 18446744073709551616 then .ok (decN 0 l) else .range := by
  rw [Lib.parseUintB_64]
  unfold Lib.parseMag
  split
  · exact (if_pos rfl).symm
  · exact parse_dig l 0 h (by omega)
/-- Of equally long rows of digits the greater one is the greater number. -/
def lexLt : List UInt8 → List UInt8 → Bool
  | _, [] => false
  | [], _ :: _ => true
  | a :: x, b :: y => if a.toNat < b.toNat then true else if b.toNat < a.toNat then false else lexLt x y
theorem lex_dec : ∀ (x y : List UInt8), x.length = y.length → Digs x → Digs y → (lexLt x y = true ↔ decN 0 x < decN 0 y)
  | [], [], _, _, _ => by simp [lexLt]
  | [], _ :: _, h, _, _ => by simp at h
  | _ :: _, [], h, _, _ => by simp at h
  | a :: x, b :: y, h, hx, hy => by
    have hl : x.length = y.length := by simpa using h
    have h1 := decN_lt x fun c hc => hx c (List.mem_cons_of_mem _ hc)
    have h2 := decN_lt y fun c hc => hy c (List.mem_cons_of_mem _ hc)
    have ha := isDig_iff.1 (hx a (by simp))
    have hb := isDig_iff.1 (hy b (by simp))
    rw [decN_cons, decN_cons, decN_acc x, decN_acc y, ← hl]
    rw [← hl] at h2
    generalize 10 ^ x.length = P at *
    rw [lexLt]
    split
    · rename_i hab
      have : (0 * 10 + (a.toNat - 48) + 1) * P ≤ (0 * 10 + (b.toNat - 48)) * P := Nat.mul_le_mul_right _ (by omega)
      rw [Nat.add_mul, Nat.one_mul] at this
      simp only [true_iff]
      omega
    · split
      · rename_i hab hba
        have : (0 * 10 + (b.toNat - 48) + 1) * P ≤ (0 * 10 + (a.toNat - 48)) * P := Nat.mul_le_mul_right _ (by omega)
        rw [Nat.add_mul, Nat.one_mul] at this
        simp only [Bool.false_eq_true, false_iff]
        omega
      · rename_i hab hba
        have e : a.toNat = b.toNat := by omega
        rw [e, lex_dec x y hl (fun c hc => hx c (List.mem_cons_of_mem _ hc)) (fun c hc => hy c (List.mem_cons_of_mem _ hc))]
        omega
end Go.Proofs.YtmhaahcbmdhinaaGreatDoor
namespace Go.Proofs.YtmhaahcbmdhinaaGreatDoor
open Go.RowKit
set_option maxRecDepth 100000
set_option linter.unusedVariables false
set_option linter.unusedSimpArgs false
abbrev rvR (A : Option Addr) (n c : Nat) (k : Int) : Value := .agg #[.slice A n c, .int .i64 k]
theorem failR_any (A : Option Addr) (n c : Nat) (k e : Int) (w : World) :
    Calls Tryz.prog 205 #[.agg #[.slice A n c, .int .i64 k], .int .i64 e] w (fun r w' => r = .returned (rvR A n c (if k = 0 then e else k)) ∧ Below w.heap.size w w') := by
  obtain ⟨W0, hW0⟩ : ∃ W0, W0 = (w.alloc (.cells #[.slice A n c, .int .i64 k] 233)).alloc (.cells #[.slice none 0 0, .int .i64 0] 233) := ⟨_, rfl⟩
  have b0 : Bx W0 w.heap.size #[.slice A n c, .int .i64 k] := by subst hW0; exact (Bx.new _ _ _ rfl).alloc _
  have b1 : Bx W0 (w.heap.size + 1) #[.slice none 0 0, .int .i64 0] := by subst hW0; exact Bx.new _ _ _ (by simp)
  have hbe : Below w.heap.size w W0 := by subst hW0; exact ((Below.refl _ _).alloc (Nat.le_refl _) _).alloc (by simp) _
  obtain ⟨c0, c1, f0, f1⟩ := b0.c2
  obtain ⟨d0, d1, g0, g1⟩ := b1.c2
  have HW := Lib.hid hW0
  have B := Lib.hid (And.intro b0 (And.intro b1 hbe))
  have n1 : ¬ w.heap.size + 1 = w.heap.size := by omega
  have n2 : ¬ w.heap.size = w.heap.size + 1 := by omega
  clear hW0 b0 b1 hbe
  by_cases hk : k = 0
  · subst hk
    rw [if_pos rfl]
    go_enter Tryz.func205, Tryz.ntmps205
    go_upto_region 1 with (fail)
    rw [← HW.out]
    go_wp2_with fail
    refine bodyPost_ret (by simp [results, Tryz.results205, go_sem, c0, c1, d0, d1, n1, n2]; rfl) rfl ?_
    refine ⟨rfl, ((B.out.2.2.setCell (p := ⟨w.heap.size, 1, none⟩) (Nat.le_refl _) _).setCell (p := ⟨w.heap.size + 1, 0, none⟩) (by show w.heap.size ≤ w.heap.size + 1; omega) _).setCell (p := ⟨w.heap.size + 1, 1, none⟩) (by show w.heap.size ≤ w.heap.size + 1; omega) _⟩
  · rw [if_neg hk]
    have hkd : (k == 0) = false := by simpa using hk
    go_enter Tryz.func205, Tryz.ntmps205
    go_upto_region 1 with (fail)
    rw [← HW.out]
    go_wp2_with fail
    refine bodyPost_ret (by simp [results, Tryz.results205, go_sem, c0, c1, d0, d1, n1, n2]; rfl) rfl ?_
    refine ⟨rfl, (B.out.2.2.setCell (p := ⟨w.heap.size + 1, 0, none⟩) (by show w.heap.size ≤ w.heap.size + 1; omega) _).setCell (p := ⟨w.heap.size + 1, 1, none⟩) (by show w.heap.size ≤ w.heap.size + 1; omega) _⟩
theorem headR_any (A : Option Addr) (n c : Nat) (k : Int) (l : List UInt8) (x : UInt8) (w : World) {ok : Nat → Prop} (hr : Rd w ok 1 A n (bs l)) :
    Calls Tryz.prog 206 #[.agg #[.slice A n c, .int .i64 k], .int .u8 (x.toNat : Int)] w (fun r w' => r = .returned (rvR A n c (if k = 0 then headE x l else k)) ∧ Below w.heap.size w w') := by
  obtain ⟨W0, hW0⟩ : ∃ W0, W0 = (w.alloc (.cells #[.slice A n c, .int .i64 k] 233)).alloc (.cells #[.slice none 0 0, .int .i64 0] 233) := ⟨_, rfl⟩
  have b0 : Bx W0 w.heap.size #[.slice A n c, .int .i64 k] := by subst hW0; exact (Bx.new _ _ _ rfl).alloc _
  have b1 : Bx W0 (w.heap.size + 1) #[.slice none 0 0, .int .i64 0] := by subst hW0; exact Bx.new _ _ _ (by simp)
  have hbe : Below w.heap.size w W0 := by subst hW0; exact ((Below.refl _ _).alloc (Nat.le_refl _) _).alloc (by simp) _
  have hl := hr.blen
  have hr0 := hr.below hbe
  obtain ⟨c0, c1, f0, f1⟩ := b0.c2
  obtain ⟨d0, d1, g0, g1⟩ := b1.c2
  have HW := Lib.hid hW0
  have B := Lib.hid (And.intro b0 (And.intro b1 hbe))
  have n1 : ¬ w.heap.size + 1 = w.heap.size := by omega
  have n2 : ¬ w.heap.size = w.heap.size + 1 := by omega
  have hz : w.heap.size + 2 = W0.heap.size := by subst hW0; simp
  have Hz := Lib.hid hz
  clear hW0 b0 b1 hbe hz
  have fin : ∀ v, Below w.heap.size w (((W0).setCell ⟨w.heap.size + 1, 0, none⟩ (.slice A n c)).setCell ⟨w.heap.size + 1, 1, none⟩ v) := fun v => (B.out.2.2.setCell (p := ⟨w.heap.size + 1, 0, none⟩) (by show w.heap.size ≤ w.heap.size + 1; omega) _).setCell (p := ⟨w.heap.size + 1, 1, none⟩) (by show w.heap.size ≤ w.heap.size + 1; omega) _
  have Fin := Lib.hid fin
  clear fin
  by_cases hk : k = 0
  · subst hk
    simp only [if_true]
    have hfl := fun (e : Int) => failR_any A n c 0 e W0
    simp only [if_true] at hfl
    cases hll : l with
    | nil =>
      have hn : n = 0 := by rw [hll] at hl; exact hl.symm
      subst hn
      have e : headE x [] = 12 := rfl
      rw [e]
      have Hf := Lib.hid (hfl 12)
      clear hr hr0 hl hfl hll e
      go_enter Tryz.func206, Tryz.ntmps206
      go_upto_region 1 with (fail)
      rw [← HW.out]
      go_wp2_with fail
      refine Hf.out.mono ?_
      rintro r w1 ⟨rfl, hb1⟩
      obtain ⟨d0, d1, g0, g1⟩ := (B.out.2.1.below hb1).c2
      have hb2 := B.out.2.2.trans (hb1.mono B.out.2.2.size)
      have Hb2 := Lib.hid hb2
      clear hb1 hb2
      unfold rvR
      go_wp2_with fail
      refine bodyPost_ret (by simp [results, Tryz.results206, go_sem, d0, d1]; rfl) rfl ?_
      exact ⟨rfl, (Hb2.out.setCell (p := ⟨w.heap.size + 1, 0, none⟩) (by show w.heap.size ≤ w.heap.size + 1; omega) _).setCell (p := ⟨w.heap.size + 1, 1, none⟩) (by show w.heap.size ≤ w.heap.size + 1; omega) _⟩
    | cons y r =>
      obtain ⟨ad, rfl, _, hc⟩ := hr0.byte (k := 0) (by rw [hll] at hl; simp at hl; omega)
      have e0 : l.getD 0 0 = y := by rw [hll]; rfl
      rw [e0] at hc
      obtain ⟨b, o, sp⟩ := ad
      replace hc : W0.cell? ⟨b, o, sp⟩ = some (.int .u8 (y.toNat : Int)) := hc
      have hn : 0 < n := by rw [hll] at hl; simp at hl; omega
      have hnI : (0 : Int) < n := by omega
      have hn2 : ((n : Int) == 0) = false := by simp; omega
      rw [headE_cons]
      by_cases hxy : y = x
      · subst hxy
        rw [if_pos rfl]
        have hq : ((y.toNat : Int) != (y.toNat : Int)) = false := by simp
        clear hr hr0 hl hfl hll e0
        go_enter Tryz.func206, Tryz.ntmps206
        go_upto_region 1 with (fail)
        rw [← HW.out]
        go_wp2_with fail
        refine bodyPost_ret (by simp [results, Tryz.results206, go_sem, c0, c1, d0, d1, n1, n2]; rfl) rfl ?_
        exact ⟨rfl, Fin.out _⟩
      · rw [if_neg hxy]
        have hq : ((y.toNat : Int) != (x.toNat : Int)) = true := by
          simp only [bne_iff_ne, ne_eq]
          intro h
          exact hxy (UInt8.toNat_inj.1 (by omega))
        have Hf := Lib.hid (hfl 3)
        clear hr hr0 hl hfl hll e0 hxy
        go_enter Tryz.func206, Tryz.ntmps206
        go_upto_region 1 with (fail)
        rw [← HW.out]
        go_wp2_with fail
        refine Hf.out.mono ?_
        rintro r w1 ⟨rfl, hb1⟩
        obtain ⟨d0, d1, g0, g1⟩ := (B.out.2.1.below hb1).c2
        have hb2 := B.out.2.2.trans (hb1.mono B.out.2.2.size)
        have Hb2 := Lib.hid hb2
        clear hb1 hb2
        unfold rvR
        go_wp2_with fail
        refine bodyPost_ret (by simp [results, Tryz.results206, go_sem, d0, d1]; rfl) rfl ?_
        exact ⟨rfl, (Hb2.out.setCell (p := ⟨w.heap.size + 1, 0, none⟩) (by show w.heap.size ≤ w.heap.size + 1; omega) _).setCell (p := ⟨w.heap.size + 1, 1, none⟩) (by show w.heap.size ≤ w.heap.size + 1; omega) _⟩
  · rw [if_neg hk]
    have hkd : (k != 0) = true := by simpa using hk
    clear hr hr0 hl
    go_enter Tryz.func206, Tryz.ntmps206
    go_upto_region 1 with (fail)
    rw [← HW.out]
    go_wp2_with fail
    refine bodyPost_ret (by simp [results, Tryz.results206, go_sem, c0, c1, d0, d1, n1, n2]; rfl) rfl ?_
    exact ⟨rfl, Fin.out _⟩
end Go.Proofs.YtmhaahcbmdhinaaGreatDoor
