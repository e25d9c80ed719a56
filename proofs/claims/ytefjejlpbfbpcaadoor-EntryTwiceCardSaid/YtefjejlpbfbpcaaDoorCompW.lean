/- Hand steps of a drawn region; small words. Walk of the document's Compact. Walk of tollbarlaw09.EntryCompacts. -/
import Derived.Test.YtefjejlpbfbpcaaDoorGive
import Derived.Test.YtefjejlpbfbpcaaDoorCompR
import Derived.Test.YtefjejlpbfbpcaaDoorFromA
import Derived.Test.YtefjejlpbfbpcaaDoorSure
import Derived.Test.YtefjejlpbfbpcaaDoorNum
namespace Go.Proofs.YtefjejlpbfbpcaaDoor
open Go.RowKit
set_option maxRecDepth 100000
set_option linter.unusedVariables false
set_option linter.unusedSimpArgs false
section
variable {P : Program} {ops : Array Oper} {Q : Exit → Act → World → Prop} {md : Region.Mode}
theorem hand_take {i d : Nat} {oi : Oper} {v : Value} {fuel : Nat} {listed : Array Bool} {a : Act} {w : World} (hi : ops[i]? = some oi)
    (hs : Region.noSelect ops = true) (hf : Region.free md ops listed i = true) (hr : (Region.ready md ops listed).contains i = true)
    (hQ : ∀ c a w, Q (.panic c) (a.put oi.dst v) w → Q (.panic c) a w) (hd : oi.dst = some d) (hw : Region.wanted oi (yielded ops a.tmps) = true) (hy : ∀ w, (execOp a.eval oi).run P w = .ok (.value v) w)
    (h : wpAny P md ops Q fuel (listed.setIfInBounds i true) (a.put (some d) v) w) : wpAny P md ops Q (fuel + 1) listed a w :=
  wpAny_take hi hs hf hr hQ (Or.inl ⟨hw, hy⟩) (by rw [hd]; exact h)
theorem hand_skip {i d : Nat} {oi : Oper} {fuel : Nat} {listed : Array Bool} {a : Act} {w : World} (hi : ops[i]? = some oi)
    (hs : Region.noSelect ops = true) (hf : Region.free md ops listed i = true) (hr : (Region.ready md ops listed).contains i = true)
    (hQ : ∀ c a w, Q (.panic c) (a.put oi.dst undef) w → Q (.panic c) a w) (hd : oi.dst = some d) (hw : Region.wanted oi (yielded ops a.tmps) = false)
    (h : wpAny P md ops Q fuel (listed.setIfInBounds i true) (a.put (some d) undef) w) : wpAny P md ops Q (fuel + 1) listed a w :=
  wpAny_take hi hs hf hr hQ (Or.inr ⟨hw, rfl⟩) (by rw [hd]; exact h)
end
theorem below_on {w5 W w6 : World} (h : Below w5.heap.size w5 W) (h2 : Below W.heap.size W w6) : Below w5.heap.size w5 w6 := h.trans (h2.mono h.size)
theorem wel_mem {W : World} {N : Nat} {L L2 : List Er} (hw : Wel L) (hs : ∀ x ∈ L, x.n ≤ N) (hm : ∀ y ∈ L2, en y ∈ L.map en) (hd : Dat W L2) : Wel L2 ∧ ∀ y ∈ L2, y.n ≤ N := by
  have key : ∀ y ∈ L2, (W64 y ∧ y.n = y.d.length) ∧ y.n ≤ N := by
    intro y hy
    obtain ⟨x, hx, he⟩ := List.mem_map.1 (hm y hy)
    have hx' := (hw x hx).1
    have e1 : x.a = y.a := congrArg En.a he
    have e2 : x.b = y.b := congrArg En.b he
    have e3 : x.c = y.c := congrArg En.c he
    have e4 : x.d = y.d := congrArg En.d he
    unfold W64 at hx'
    rw [e1, e2, e3] at hx'
    have h5 := ((hd y hy).1.blen).symm
    refine ⟨⟨hx', h5⟩, ?_⟩
    rw [h5, ← e4, ← (hw x hx).2]
    exact hs x hx
  exact ⟨fun y hy => (key y hy).1, fun y hy => (key y hy).2⟩
end Go.Proofs.YtefjejlpbfbpcaaDoor
namespace Go.Proofs.YtefjejlpbfbpcaaDoor
open Go.RowKit
set_option maxRecDepth 100000
set_option linter.unusedVariables false
set_option linter.unusedSimpArgs false
def CompRPost (W : World) (b t ix : Int) (n : Nat) (L : List Er) (r : Int × Int) (e : Ending) (w' : World) : Prop :=
  if r.1 = 0 then ∃ A c m, e = .returned (.tuple #[.agg #[.int .i64 ix, .int .i64 r.2, .slice A (n - m) c], .int .i64 0]) ∧ m ≤ n ∧ ix = b + m ∧ Rd w' T 4 A (n - m) (flat ecell (L.drop m)) ∧ Below W.heap.size W w'
  else e = .returned (.tuple #[.agg #[.int .i64 0, .int .i64 0, .slice none 0 0], .int .i64 r.1]) ∧ Below W.heap.size W w'
theorem compL_in {b t ix : Int} {l : List En} (h0 : (compL b t l ix).1 = 0) : lmay b t l = true ∧ b ≤ ix ∧ ix ≤ b + l.length := by
  by_cases hm : lmay b t l = true
  · rw [compL_yes hm] at h0
    have hlast := lmay_last hm
    refine ⟨hm, ?_⟩
    unfold termL at h0
    rw [hlast] at h0
    split at h0
    · cases h0
    · split at h0
      · cases h0
      · omega
  · rw [Bool.not_eq_true] at hm
    rw [compL_no hm] at h0
    cases h0
set_option maxHeartbeats 1600000 in
theorem compR_any (b t ix : Int) (A : Option Addr) (n c : Nat) (L : List Er) (w : World) (hr : Rd w T 4 A n (flat ecell L)) (hw : Wel L) (hn : n ≤ 1000000) (hnc : n ≤ c) :
    Calls Tryd.prog 22 #[.agg #[.int .i64 b, .int .i64 t, .slice A n c], .int .i64 ix] w (CompRPost w b t ix n L (compL b t (L.map en) ix)) := by
  have hr' := hr.lt (by omega)
  have hll := hr.flen ecell_len (by omega)
  obtain ⟨W0, hW0⟩ : ∃ W0, W0 = (w.alloc (.cells #[.int .i64 b, .int .i64 t, .slice A n c] 24)).alloc (.cells #[.int .i64 0, .int .i64 0, .slice none 0 0] 24) := ⟨_, rfl⟩
  have b0 : Bx W0 w.heap.size #[.int .i64 b, .int .i64 t, .slice A n c] := by subst hW0; exact (Bx.new _ _ _ rfl).alloc _
  have F0 : Fr W0 (w.heap.size + 1) 3 W0 := by subst hW0; exact Fr.new (by simp) rfl
  have r0 : Rd W0 (· < w.heap.size) 4 A n (flat ecell L) := by subst hW0; exact ((hr'.mono fun b hb => hb.2).alloc _).alloc _
  have hbe : Below w.heap.size w W0 := by subst hW0; exact ((Below.refl _ _).alloc (Nat.le_refl _) _).alloc (by simp) _
  have u0 : W0.cell? ⟨w.heap.size, 0, none⟩ = some (.int .i64 b) := b0.c 0
  have u1 : W0.cell? ⟨w.heap.size, 1, none⟩ = some (.int .i64 t) := b0.c 1
  have u2 : W0.cell? ⟨w.heap.size, 2, none⟩ = some (.slice A n c) := b0.c 2
  have hlt := termR_any b t ix A n c L W0 r0 hw hn
  obtain ⟨r, hrr⟩ : ∃ r, compL b t (L.map en) ix = r := ⟨_, rfl⟩
  have hin : r.1 = 0 → b ≤ ix ∧ ix ≤ b + n := fun h => by
    have := (compL_in (hrr ▸ h)).2
    rwa [List.length_map, hll] at this
  rw [hrr] at hlt ⊢
  have Hlt := Lib.hid hlt
  have HW := Lib.hid hW0
  have U := Lib.hid (And.intro u0 (And.intro u1 u2))
  have Hin := Lib.hid hin
  have R0 := Lib.hid r0
  have Hll := Lib.hid hll
  clear hW0 b0 u0 u1 u2 hr hr' r0 hlt hw hrr hin hll
  obtain ⟨r1, r2⟩ := r
  go_enter Tryd.func22, Tryd.ntmps22
  obtain ⟨u0, u1, u2⟩ := U.out
  go_wp2_with fail
  rw [← HW.out]
  obtain ⟨u0, u1, u2⟩ := U.out
  go_wp2_with fail
  refine Hlt.out.mono ?_
  rintro e w2 ⟨rfl, hb2⟩
  have F2 := F0.below hb2
  have j0 : w2.cell? ⟨w.heap.size, 0, none⟩ = some (.int .i64 b) := F2.cell (by omega) U.out.1
  have j1 : w2.cell? ⟨w.heap.size, 1, none⟩ = some (.int .i64 t) := F2.cell (by omega) U.out.2.1
  have j2 : w2.cell? ⟨w.heap.size, 2, none⟩ = some (.slice A n c) := F2.cell (by omega) U.out.2.2
  have q0 : w2.cell? ⟨w.heap.size + 1, 0, none⟩ = some (peek w2 (w.heap.size + 1) 0) := F2.pk (by omega)
  have q1 : w2.cell? ⟨w.heap.size + 1, 1, none⟩ = some (peek w2 (w.heap.size + 1) 1) := F2.pk (by omega)
  have q2 : w2.cell? ⟨w.heap.size + 1, 2, none⟩ = some (peek w2 (w.heap.size + 1) 2) := F2.pk (by omega)
  have g0 : w2.frozen? ⟨w.heap.size + 1, 0, none⟩ = false := F2.fz _
  have g1 : w2.frozen? ⟨w.heap.size + 1, 1, none⟩ = false := F2.fz _
  have g2 : w2.frozen? ⟨w.heap.size + 1, 2, none⟩ = false := F2.fz _
  clear u0 u1 u2
  by_cases h0 : r1 = 0
  · subst h0
    obtain ⟨h1, h2⟩ := Hin.out rfl
    obtain ⟨m, hmx⟩ : ∃ m : Nat, ix = b + m := ⟨(ix - b).toNat, by omega⟩
    have hmn : m ≤ n := by omega
    have wv : IntKind.i64.wrap (ix - b) = (m : Int) := by rw [IntKind.wrap_i64]; omega
    have hsl : ∀ W, (Instr.sliceAt 22 (.slice A n c) (some (.int .i64 (m : Int))) none none).run Tryd.prog W = .ok (.slice (if c = m then A else A.map (·.add (m * 4))) (n - m) (c - m)) W := fun W => run_slice_lo (P := Tryd.prog) 22 Tryd.underlying22 (size := 4) (by kernel_rfl) A n c W m hmn
    have hrs : Rd w2 (· < w.heap.size) 4 (if c = m then A else A.map (·.add (m * 4))) (n - m) (flat ecell (L.drop m)) := by
      have := (R0.out.below hb2).sub (l := m) (k := n - m) (m := c) (by omega) (by omega)
      rw [← flat_drop ecell_len, List.take_of_length_le (by rw [flat_length ecell_len]; have := Hll.out; simp; omega)] at this
      exact this
    generalize (if c = m then A else A.map (·.add (m * 4))) = A5 at hsl hrs
    have Hrs := Lib.hid hrs
    have Hmx := Lib.hid (And.intro hmn hmx)
    clear hrs h1 h2 hmn hmx hb2
    go_wp2_with fail
    have FF := Fr.set (Fr.set (Fr.set F2 0 (.int .i64 ix)) 1 (.int .i64 r2)) 2 (.slice A5 (n - m) (c - m))
    refine bodyPost_ret (by simp [results, Tryd.results22, go_sem, q0, q1, q2]; rfl) rfl ?_
    unfold CompRPost
    rw [if_pos rfl]
    have hne : ¬ w.heap.size + 1 < w.heap.size := by omega
    refine ⟨A5, c - m, m, rfl, Hmx.out.1, Hmx.out.2, ?_, hbe.trans (FF.to_below (B := w.heap.size) (by omega))⟩
    exact (((Hrs.out.setCell (p := ⟨w.heap.size + 1, 0, none⟩) hne _).setCell (p := ⟨w.heap.size + 1, 1, none⟩) hne _).setCell (p := ⟨w.heap.size + 1, 2, none⟩) hne _).any
  · have hne : (r1 != 0) = true := by simpa using h0
    go_wp2_with fail
    have FF := Fr.set (Fr.set (Fr.set F2 0 (.int .i64 0)) 1 (.int .i64 0)) 2 (.slice none 0 0)
    refine bodyPost_ret (by simp [results, Tryd.results22, go_sem, q0, q1, q2]; rfl) rfl ?_
    unfold CompRPost
    rw [if_neg h0]
    exact ⟨rfl, hbe.trans (FF.to_below (B := w.heap.size) (by omega))⟩
end Go.Proofs.YtefjejlpbfbpcaaDoor
namespace Go.Proofs.YtefjejlpbfbpcaaDoor
open Go.RowKit
set_option maxRecDepth 100000
set_option linter.unusedVariables false
set_option linter.unusedSimpArgs false
/-- Logs with the same entries, where each can be written as bytes. -/
theorem logs_same (b t : Int) (l : List En) (A : Option Addr) (n c : Nat) (L : List Er) (B : Option Addr) (m d : Nat) (L' : List Er) (w : World) (hr : Rd w T 4 A n (flat ecell L)) (hr' : Rd w T 4 B m (flat ecell L')) (hd : ∀ x ∈ L, Rd w T 1 x.A x.n (bs x.d)) (hd' : ∀ x ∈ L', Rd w T 1 x.A x.n (bs x.d)) (hs : L.map en = l) (hs' : L'.map en = l) (hl : ∀ e ∈ l, WtE e) (hlen : l.length ≤ 1000000) (htab : TabW w) :
    Calls Tryd.prog 17 #[.agg #[.int .i64 b, .int .i64 t, .slice A n c], .agg #[.int .i64 b, .int .i64 t, .slice B m d]] w (BoolPost w true) := by
  have e1 := hr.flen ecell_len (by omega)
  have e2 := hr'.flen ecell_len (by omega)
  have e3 : L.length = l.length := by rw [← hs]; simp
  have e4 : L'.length = l.length := by rw [← hs']; simp
  obtain rfl : n = m := by omega
  have wt : ∀ (L : List Er), L.map en = l → (∀ x ∈ L, Rd w T 1 x.A x.n (bs x.d)) → ∀ x ∈ L, Wt x := by
    intro L he hd x hx
    have h1 := hl (en x) (by rw [← he]; exact List.mem_map.2 ⟨x, hx, rfl⟩)
    have h2 := (hd x hx).blen
    have e1 : (en x).a = x.a := rfl
    have e2 : (en x).b = x.b := rfl
    have e3 : (en x).c = x.c := rfl
    have e4 : (en x).d = x.d := rfl
    unfold WtE at h1
    rw [e1, e2, e3, e4] at h1
    unfold Wt
    omega
  exact sameLog_yes b t A n c L B d L' w hr hr' hd hd' (hs'.trans hs.symm) (wt L hs hd) (wt L' hs' hd') (by omega) htab
theorem num_errC (k : Int) (w : World) (hg : ErrT w) : Calls Tryd.prog 23 #[errC k] w fun e w' => e = .returned (.int .i64 k) ∧ Below w.heap.size w w' := num_any k w hg
set_option maxHeartbeats 3200000 in
theorem compacts_walk (b t ix : Int) (A : Option Addr) (n c : Nat) (L : List Er) (w : World) (hr : Rd w T 4 A n (flat ecell L)) (hd : Dat w L) (hw : ∀ y ∈ L, W64 y ∧ y.n ≤ 140737488351232) (hn : n ≤ 9223372036854775807) (hnc : n ≤ c) (hix : I64 ix) (htab : TabW w) (hg : ErrT w) :
    Calls Tryd.prog 6 #[.agg #[.int .i64 b, .int .i64 t, .slice A n c], .int .i64 ix] w (YesPost w) := by
  obtain ⟨W0, hW0⟩ : ∃ W0, W0 = w.alloc (.cells #[.int .i64 b, .int .i64 t, .slice A n c] 24) := ⟨_, rfl⟩
  have bx0 : Bx W0 w.heap.size #[.int .i64 b, .int .i64 t, .slice A n c] := by subst hW0; exact Bx.new _ _ _ rfl
  have hb0 : Below w.heap.size w W0 := by subst hW0; exact (Below.refl _ _).alloc (Nat.le_refl _) _
  have r0 : Rd W0 T 4 A n (flat ecell L) := by subst hW0; exact hr.alloc _
  have d0 : Dat W0 L := hd.below (by subst hW0; exact (Below.refl _ _).alloc (Nat.le_refl _) _)
  have t0 : TabW W0 := htab.below hb0 (Nat.le_refl _)
  have g0 : ErrT W0 := hg.below hb0
  have hwl : Wel L := fun y hy => ⟨(hw y hy).1, ((hd y hy).1.blen).symm⟩
  have sof : ∀ W, Below W0.heap.size W0 W → (W.cell? ⟨w.heap.size, 0, none⟩ = some (.int .i64 b) ∧ W.cell? ⟨w.heap.size, 1, none⟩ = some (.int .i64 t) ∧ W.cell? ⟨w.heap.size, 2, none⟩ = some (.slice A n c)) := fun W h => ⟨(bx0.below h).c 0, (bx0.below h).c 1, (bx0.below h).c 2⟩
  have hlg := longs_any A n c L W0 r0 (fun x hx => (hw x hx).2) hn
  obtain ⟨lg, hlgv⟩ : ∃ lg, longB L = lg := ⟨_, rfl⟩
  rw [hlgv] at hlg
  have hup : ∀ W W', Below W0.heap.size W0 W → Below W.heap.size W W' → Below W0.heap.size W0 W' := fun W W' h h' => h.trans (h'.mono h.size)
  have Hb0 := Lib.hid hb0
  have Sof := Lib.hid sof
  have HW := Lib.hid hW0
  have Hlg := Lib.hid hlg
  have Hup := Lib.hid hup
  have hs0 := Lib.hid (sof W0 (Below.refl _ _))
  cases lg
  · obtain ⟨hl1, hl2⟩ := longB_no hlgv
    have hlen := hr.flen ecell_len (by omega)
    have hn2 : n ≤ 200 := by omega
    have hs : ∀ x ∈ L, x.n ≤ 1000000 := fun x hx => by have := hl2 x hx; omega
    have hgv := fun (W : World) (h : Below W0.heap.size W0 W) => giveLog_any b t A n c L W (r0.below h) (d0.below h) hs (by omega)
    have hfr := fun (W : World) (h : Below W0.heap.size W0 W) => compR_any b t ix A n c L W (r0.below h) hwl (by omega) hnc
    have hnum := fun (W : World) (h : Below W0.heap.size W0 W) k => num_errC k W (g0.below h)
    have hsame := fun (W : World) (h : Below W0.heap.size W0 W) b t l A n c L B m d L' hr hr' hd hd' hs hs' hl hlen => logs_same b t l A n c L B m d L' W hr hr' hd hd' hs hs' hl hlen (t0.below h (Nat.le_refl _))
    obtain ⟨R, hR⟩ : ∃ R, compL b t (L.map en) ix = R := ⟨_, rfl⟩
    have hwe : R.1 = 0 → ∀ e ∈ L.map en, WtE e := fun h => lmay_wtE (compL_in (hR ▸ h)).1
    rw [hR] at hfr
    have hfa' : ∀ (W : World) A' c' (L' : List Er), Rd W T 4 A' n (flat ecell L') → Dat W L' → Same L L' → n ≤ c' → c' ≤ maxLen → Calls Tryd.prog 21 #[.agg #[.int .i64 b, .int .i64 t, .slice A' n c'], .int .i64 ix] W (CompPost W b t ix n L' R) := fun W A' c' L' r d hsm h1 h2 => by
      have hq := wel_mem hwl hs (fun y hy => by rw [← show L'.map en = L.map en from hsm]; exact List.mem_map.2 ⟨y, hy, rfl⟩) d
      have := compA_any b t ix A' n c' L' W r d hq.1 hq.2 (by omega) h1 h2
      rw [show L'.map en = L.map en from hsm, hR] at this
      exact this
    have hd0' := fun (W : World) (h : Below W0.heap.size W0 W) => d0.below h
    have Hgv := Lib.hid hgv
    have Hfr := Lib.hid hfr
    have Hfa := Lib.hid hfa'
    have Hnum := Lib.hid hnum
    have Hsame := Lib.hid hsame
    have Hwe := Lib.hid hwe
    have Hd0 := Lib.hid hd0'
    have Hlen := Lib.hid hlen
    clear hr hd hw hW0 bx0 hb0 r0 d0 t0 g0 hwl sof hlg hgv hfr hfa' hnum hsame hwe hl2 hlgv hs htab hg hd0' hR hup hlen
    go_enter Tryd.func6, Tryd.ntmps6
    go_wp2_with fail
    rw [← HW.out]
    refine Hlg.out.mono ?_
    rintro e w1 ⟨rfl, hb1⟩
    obtain ⟨u0, u1, u2⟩ := Sof.out _ hb1
    go_wp2_with fail
    refine (Hgv.out _ hb1).mono ?_
    rintro e w2 ⟨A2, c2, L2, rfl, r2, d2, m2, n2, x2, hb2⟩
    have k2 := Hup.out _ _ hb1 hb2
    clear u0 u1 u2 hb2
    have M2 := Lib.hid m2
    clear m2
    go_wp2_with fail
    refine (Hfa.out _ A2 c2 L2 r2 d2 M2.out n2 x2).mono ?_
    rintro e w3 hc3
    have hcap : n ≤ c2 := n2
    clear r2 d2 n2 x2 hb1
    unfold CompPost at hc3
    by_cases hR0 : R.1 = 0
    · rw [if_pos hR0] at hc3
      obtain ⟨A3, c3, L3, m, rfl, hm1, hm2, r3, d3, m3, -, hb3⟩ := hc3
      have k3 := Hup.out _ _ k2 hb3
      have hwe := Hwe.out hR0
      rw [show L2.map en = L.map en from M2.out] at m3
      have D3 := Lib.hid (And.intro r3 (And.intro d3.dat m3))
      have Hwe2 := Lib.hid hwe
      have Hm := Lib.hid (And.intro hm1 hm2)
      clear hb3 r3 d3 m3 k2 hwe hm1 hm2
      have HR0 := Lib.hid hR0
      clear hR0
      obtain ⟨W4, hW4⟩ : ∃ W4, W4 = w3.alloc (.cells #[.int .i64 ix, .int .i64 R.2, .slice A3 (n - m) c3] 31) := ⟨_, rfl⟩
      have bx4 : Bx W4 w3.heap.size #[.int .i64 ix, .int .i64 R.2, .slice A3 (n - m) c3] := by subst hW4; exact Bx.new _ _ _ rfl
      have k4 : Below W0.heap.size W0 W4 := by subst hW4; exact k3.alloc k3.size _
      have dd4 : Below w3.heap.size w3 W4 := by subst hW4; exact (Below.refl _ _).alloc (Nat.le_refl _) _
      have D4 := Lib.hid (And.intro (D3.out.1.below dd4) (And.intro (D3.out.2.1.below dd4) D3.out.2.2))
      obtain ⟨u0, u1, u2⟩ := Sof.out _ k4
      have HW4 := Lib.hid hW4
      have BX4 := Lib.hid bx4
      clear D3 dd4 hW4 bx4 k3
      go_upto_region 4 with (fail)
      rw [← HW4.out]
      go_wp2_with fail
      refine (Hfr.out _ k4).mono ?_
      rintro e w5 hc5
      unfold CompRPost at hc5
      rw [if_pos HR0.out] at hc5
      obtain ⟨A5, c5, m5, rfl, hm5, hx5, r5, hb5⟩ := hc5
      obtain rfl : m5 = m := by have := Hm.out; omega
      clear hx5 hm5
      obtain ⟨W6, hW6⟩ : ∃ W6, W6 = w5.alloc (.cells #[.int .i64 ix, .int .i64 R.2, .slice A5 (n - m5) c5] 24) := ⟨_, rfl⟩
      have bx6 : Bx W6 w5.heap.size #[.int .i64 ix, .int .i64 R.2, .slice A5 (n - m5) c5] := by subst hW6; exact Bx.new _ _ _ rfl
      have dd6 : Below w5.heap.size w5 W6 := by subst hW6; exact (Below.refl _ _).alloc (Nat.le_refl _) _
      have e6 : Below W4.heap.size W4 W6 := hb5.trans (dd6.mono hb5.size)
      have k6 := Hup.out _ _ k4 e6
      have q6 := BX4.out.below e6
      obtain ⟨v0, v1, v2, -⟩ := q6.c3
      obtain ⟨x0, x1, x2, -⟩ := bx6.c3
      have sm := Hsame.out W6 k6 ix R.2 ((L.map en).drop m5) A3 (n - m5) c3 L3 A5 (n - m5) c5 (L.drop m5) (D4.out.1.any.below e6) (r5.below dd6) (fun x hx => (D4.out.2.1 x hx).1.below e6) (fun x hx => ((Hd0.out _ k6) x (List.mem_of_mem_drop hx)).1) D4.out.2.2 List.map_drop (fun e he => Hwe2.out e (List.mem_of_mem_drop he)) (by simp; omega)
      have HW6 := Lib.hid hW6
      have Sm := Lib.hid sm
      clear r5 hb5 bx6 dd6 e6 hW6 sm q6 u0 u1 u2 D4 k4
      go_upto_region 5 with (fail)
      rw [← HW6.out]
      go_wp2_with fail
      refine Sm.out.mono ?_
      rintro e w7 ⟨rfl, hb7⟩
      have k7 := Hup.out _ _ k6 hb7
      clear hb7 v0 v1 v2 x0 x1 x2
      rw [show Value.nilIface = errC 0 from rfl]
      go_wp2_with fail
      refine (Hnum.out _ k7 0).mono ?_
      rintro e w8 ⟨rfl, hb8⟩
      have k8 := Hup.out _ _ k7 hb8
      clear hb8
      go_wp2_with fail
      refine (sure_any _).mono ?_
      rintro e w9 ⟨rfl, hb9⟩
      have k9 := Hup.out _ _ k8 hb9
      clear hb9
      go_wp2_with fail
      go_ret
      exact ⟨rfl, Hb0.out.trans (k9.mono Hb0.out.size)⟩
    · rw [if_neg hR0] at hc3
      obtain ⟨rfl, hb3⟩ := hc3
      have k3 := Hup.out _ _ k2 hb3
      have ek : errC R.1 = .iface 83 (.int .i64 R.1) := if_neg hR0
      rw [ek]
      have Hnum2 := Lib.hid (fun W h => (show Calls Tryd.prog 23 #[.iface 83 (.int .i64 R.1)] W _ from ek ▸ Hnum.out W h R.1))
      have HR0 := Lib.hid hR0
      clear hR0 ek hb3 k2
      obtain ⟨W4, hW4⟩ : ∃ W4, W4 = w3.alloc (.cells #[.int .i64 0, .int .i64 0, .slice none 0 0] 31) := ⟨_, rfl⟩
      have bx4 : Bx W4 w3.heap.size #[.int .i64 0, .int .i64 0, .slice none 0 0] := by subst hW4; exact Bx.new _ _ _ rfl
      have k4 : Below W0.heap.size W0 W4 := by subst hW4; exact k3.alloc k3.size _
      obtain ⟨u0, u1, u2⟩ := Sof.out _ k4
      have HW4 := Lib.hid hW4
      have BX4 := Lib.hid bx4
      clear hW4 bx4 k3
      go_upto_region 4 with (fail)
      rw [← HW4.out]
      go_wp2_with fail
      refine (Hfr.out _ k4).mono ?_
      rintro e w5 hc5
      unfold CompRPost at hc5
      rw [if_neg HR0.out] at hc5
      obtain ⟨rfl, hb5⟩ := hc5
      obtain ⟨W6, hW6⟩ : ∃ W6, W6 = w5.alloc (.cells #[.int .i64 0, .int .i64 0, .slice none 0 0] 24) := ⟨_, rfl⟩
      have bx6 : Bx W6 w5.heap.size #[.int .i64 0, .int .i64 0, .slice none 0 0] := by subst hW6; exact Bx.new _ _ _ rfl
      have dd6 : Below w5.heap.size w5 W6 := by subst hW6; exact (Below.refl _ _).alloc (Nat.le_refl _) _
      have e6 : Below W4.heap.size W4 W6 := hb5.trans (dd6.mono hb5.size)
      have k6 := Hup.out _ _ k4 e6
      have q6 := BX4.out.below e6
      obtain ⟨v0, v1, v2, -⟩ := q6.c3
      obtain ⟨x0, x1, x2, -⟩ := bx6.c3
      have sm := Hsame.out W6 k6 0 0 [] none 0 0 [] none 0 0 [] Rd.none_ Rd.none_ (by simp) (by simp) rfl rfl (by simp) (by simp)
      have HW6 := Lib.hid hW6
      have Sm := Lib.hid sm
      clear hb5 bx6 dd6 e6 hW6 sm q6 u0 u1 u2 k4
      go_upto_region 5 with (fail)
      rw [← HW6.out]
      go_wp2_with fail
      refine Sm.out.mono ?_
      rintro e w7 ⟨rfl, hb7⟩
      have k7 := Hup.out _ _ k6 hb7
      clear hb7 v0 v1 v2 x0 x1 x2
      go_wp2_with fail
      refine (Hnum2.out _ k7).mono ?_
      rintro e w8 ⟨rfl, hb8⟩
      have k8 := Hup.out _ _ k7 hb8
      clear hb8
      go_wp2_with fail
      refine (sure_any _).mono ?_
      rintro e w9 ⟨rfl, hb9⟩
      have k9 := Hup.out _ _ k8 hb9
      clear hb9
      go_wp2_with fail
      go_ret
      exact ⟨rfl, Hb0.out.trans (k9.mono Hb0.out.size)⟩
  · clear hr hd hw hW0 bx0 hb0 r0 d0 t0 g0 hwl sof hlg hlgv htab hg hup
    go_enter Tryd.func6, Tryd.ntmps6
    go_wp2_with fail
    rw [← HW.out]
    refine Hlg.out.mono ?_
    rintro e w1 ⟨rfl, hb1⟩
    go_wp2_with fail
    refine (sure_any _).mono ?_
    rintro e w9 ⟨rfl, hb9⟩
    have k9 := Hup.out _ _ hb1 hb9
    clear hb9
    go_wp2_with fail
    go_ret
    exact ⟨rfl, Hb0.out.trans (k9.mono Hb0.out.size)⟩
end Go.Proofs.YtefjejlpbfbpcaaDoor
