/- Walk: (raft.Stored).own.
   Plain laws of disks: no program in sight.
   A tape in plain words.
   A disk in memory: its object, its rows, its queue.
   Walks of the disk's functions: the place, the step, what New makes. -/
import Derived.Test.YtlecglmiigdjlaaGreatDoorZb14
import Derived.Test.YtlecglmiigdjlaaGreatDoorZb12
import Derived.Test.YtlecglmiigdjlaaGreatDoorZb13
import Derived.Test.YtlecglmiigdjlaaGreatDoorZb0
import Derived.Test.YtlecglmiigdjlaaGreatDoorZb8
namespace Go.Proofs.YtlecglmiigdjlaaGreatDoor
open Go.RowKit
set_option maxRecDepth 100000
set_option linter.unusedVariables false
set_option linter.unusedSimpArgs false
set_option maxHeartbeats 3200000 in
theorem kown_any (tm vt b t : Int) (A : Option Addr) (n c : Nat) (L : List Er) (C : Option Addr) (nc cc : Nat) (cf : List Int) (S : Option Addr) (ns cs : Nat) (sn : List UInt8) (w : World)
    (hr : Rd w T 4 A n (flat ecell L)) (hd : Dat w L) (hw : Wel L) (hs : ∀ x ∈ L, x.n ≤ 1000000) (hm : lmay b t (L.map en) = true) (hn : n ≤ 1000000) (hnn : n ≤ c) (hcm : c ≤ maxLen) (hc : Rd w T 1 C nc (ii cf)) (hnc : nc ≤ 1000000) (hsn : Rd w T 1 S ns (bs sn)) (hns : ns ≤ 35184372088832) :
    Calls Tryz.prog 30 #[stA tm vt b t A n c C nc cc S ns cs] w (StOwn w ⟨tm, vt, b, t, L.map en, cf, sn⟩) := by
  obtain ⟨W0, hW0⟩ : ∃ W0, W0 = (w.alloc (.cells #[.int .i64 tm, .int .i64 vt, .int .i64 b, .int .i64 t, .slice A n c, .slice C nc cc, .slice S ns cs] 35)).alloc (.cells #[.int .i64 0, .int .i64 0, .int .i64 0, .int .i64 0, .slice none 0 0, .slice none 0 0, .slice none 0 0] 35) := ⟨_, rfl⟩
  have b0 : Bx W0 w.heap.size #[.int .i64 tm, .int .i64 vt, .int .i64 b, .int .i64 t, .slice A n c, .slice C nc cc, .slice S ns cs] := by subst hW0; exact (Bx.new _ _ _ rfl).alloc _
  have hbe : Below w.heap.size w W0 := by subst hW0; exact ((Below.refl _ _).alloc (Nat.le_refl _) _).alloc (by simp) _
  have hcp := comp_own b t A n c L W0 (hr.below hbe) (hd.below hbe) hw hs hm hn hnn hcm
  obtain ⟨c0, c1, c2, c3, c4, c5, c6⟩ := b0.c7
  have HW := Lib.hid hW0
  have b9 : Bx W0 (w.heap.size + 1) #[.int .i64 0, .int .i64 0, .int .i64 0, .int .i64 0, .slice none 0 0, .slice none 0 0, .slice none 0 0] := by subst hW0; exact Bx.new _ _ _ (by simp)
  have hz0 : W0.heap.size = w.heap.size + 2 := by subst hW0; simp
  have B9 := Lib.hid (And.intro b9 hz0)
  have B := Lib.hid (And.intro b0 hbe)
  have Hcp := Lib.hid hcp
  clear hW0 b0 hbe hcp b9 hz0
  unfold stA
  go_enter Tryz.func30, Tryz.ntmps30
  go_upto_region 1 with (fail)
  rw [← HW.out]
  go_wp2_with fail
  refine Hcp.out.mono ?_
  rintro e w1 ⟨A1, c1', L1, rfl, r1, d1, e1, k1, hb1⟩
  clear c0 c1 c2 c3 c4 c5 c6
  obtain ⟨c0, c1, c2, c3, c4, c5, c6⟩ := (B.out.1.below hb1).c7
  have f2 : w1.frozen? ⟨w.heap.size, 2, none⟩ = false := (B.out.1.below hb1).f 2
  have f3 : w1.frozen? ⟨w.heap.size, 3, none⟩ = false := (B.out.1.below hb1).f 3
  have f4 : w1.frozen? ⟨w.heap.size, 4, none⟩ = false := (B.out.1.below hb1).f 4
  go_upto_region 2 with (fail)
  obtain ⟨W2, hW2⟩ : ∃ W2, W2 = (((w1.setCell ⟨w.heap.size, 2, none⟩ (.int .i64 b)).setCell ⟨w.heap.size, 3, none⟩ (.int .i64 t)).setCell ⟨w.heap.size, 4, none⟩ (.slice A1 n c1')) := ⟨_, rfl⟩
  have x2 : Bx W2 w.heap.size #[.int .i64 tm, .int .i64 vt, .int .i64 b, .int .i64 t, .slice A1 n c1', .slice C nc cc, .slice S ns cs] := by
    subst hW2
    exact (((B.out.1.below hb1).set 2 _).set 3 _).set 4 _
  have y2 : Bx W2 (w.heap.size + 1) #[.int .i64 0, .int .i64 0, .int .i64 0, .int .i64 0, .slice none 0 0, .slice none 0 0, .slice none 0 0] := by
    subst hW2
    exact (((B9.out.1.below hb1).far (by simp) _).far (by simp) _).far (by simp) _
  have hz0 := B9.out.2
  have hne : ¬ W0.heap.size ≤ w.heap.size := by omega
  have r2 : Rd W2 (W0.heap.size ≤ ·) 4 A1 n (flat ecell L1) := by
    subst hW2
    exact ((r1.setCell (p := ⟨w.heap.size, 2, none⟩) hne _).setCell (p := ⟨w.heap.size, 3, none⟩) hne _).setCell (p := ⟨w.heap.size, 4, none⟩) hne _
  have d2 : DatB W2 W0.heap.size L1 := by
    subst hW2
    exact fun y hy => ⟨(((d1 y hy).1.setCell (p := ⟨w.heap.size, 2, none⟩) hne _).setCell (p := ⟨w.heap.size, 3, none⟩) hne _).setCell (p := ⟨w.heap.size, 4, none⟩) hne _, (d1 y hy).2⟩
  have hb2 : Below w.heap.size w W2 := by
    subst hW2
    exact (((B.out.2.trans (hb1.mono B.out.2.size)).setCell (Nat.le_refl _) _).setCell (Nat.le_refl _) _).setCell (Nat.le_refl _) _
  have hcc := fun W (h : Below W2.heap.size W2 W) => cloneC_any C nc cc cf W (((hc.lt (by omega)).mono fun b hb => hb.2).below (hb2.trans (h.mono hb2.size))) hnc
  have hcs := fun W (h : Below W2.heap.size W2 W) => clone_any S ns cs (bs sn) W (((hsn.lt (by omega)).mono fun b hb => hb.2).below (hb2.trans (h.mono hb2.size))) (bs_one' _) hns
  have h0z : W0.heap.size ≤ W2.heap.size := by subst hW2; simpa [World.setCell] using hb1.size
  rw [← hW2]
  clear c0 c1 c2 c3 c4 c5 c6 f2 f3 f4
  obtain ⟨c0, c1, c2, c3, c4, c5, c6⟩ := x2.c7
  have f5 : W2.frozen? ⟨w.heap.size, 5, none⟩ = false := x2.f 5
  have f6 : W2.frozen? ⟨w.heap.size, 6, none⟩ = false := x2.f 6
  have X2 := Lib.hid (And.intro x2 y2)
  have R2 := Lib.hid (And.intro r2 (And.intro d2 (And.intro e1 k1)))
  have HB2 := Lib.hid (And.intro hb2 (And.intro hne h0z))
  have Hcc := Lib.hid hcc
  have Hcs := Lib.hid hcs
  clear x2 y2 r2 d2 hb2 hne hcc hcs hW2 r1 d1 e1 k1 hb1 hz0 hc hsn hr hd hw hs hm h0z
  go_region_law (first
    | (go_simp; go_at_call 35; refine (Hcc.out _ (Below.refl _ _).drew).mono ?_; rintro e w3 ⟨A3, c3', rfl, o3, hb3⟩; have x3 := X2.out.1.drew.below hb3; have y5 := x3.c 5; have y6 := x3.c 6; have g5 := x3.f 5; have g6 := x3.f 6; have X3 := Lib.hid x3; clear x3)
    | (go_simp; go_at_call 58; refine (Hcs.out w3 ((Below.refl _ _).drew.trans hb3)).mono ?_; rintro e w4 ⟨A4, c4', rfl, o4, hb4⟩; have x4 := X3.out.below hb4; have z5 := x4.c 5; have z6 := x4.c 6; have k5 := x4.f 5; have k6 := x4.f 6; have X4 := Lib.hid x4; clear x4))
  all_goals
    obtain ⟨W5, hW5⟩ : ∃ W5, W5 = (w4.setCell ⟨w.heap.size, 5, none⟩ (.slice A3 nc c3')).setCell ⟨w.heap.size, 6, none⟩ (.slice A4 ns c4') := ⟨_, rfl⟩
    have hne := HB2.out.2.1
    have h0z := HB2.out.2.2
    have hz0 := B9.out.2
    have e2 : W2.drew.heap.size = W2.heap.size := rfl
    have x5 : Bx W5 w.heap.size #[.int .i64 tm, .int .i64 vt, .int .i64 b, .int .i64 t, .slice A1 n c1', .slice A3 nc c3', .slice A4 ns c4'] := by
      subst hW5
      exact (X4.out.set 5 _).set 6 _
    have y5' : Bx W5 (w.heap.size + 1) #[.int .i64 0, .int .i64 0, .int .i64 0, .int .i64 0, .slice none 0 0, .slice none 0 0, .slice none 0 0] := by
      subst hW5
      exact (((X2.out.2.drew.below hb3).below hb4).far (by simp) _).far (by simp) _
    have r5 : Rd W5 (W0.heap.size ≤ ·) 4 A1 n (flat ecell L1) := by
      subst hW5
      exact (((R2.out.1.drew.below hb3).below hb4).setCell (p := ⟨w.heap.size, 5, none⟩) hne _).setCell (p := ⟨w.heap.size, 6, none⟩) hne _
    have d5 : DatB W5 W0.heap.size L1 := by
      subst hW5
      exact fun y hy => ⟨((((R2.out.2.1 y hy).1.drew.below hb3).below hb4).setCell (p := ⟨w.heap.size, 5, none⟩) hne _).setCell (p := ⟨w.heap.size, 6, none⟩) hne _, (R2.out.2.1 y hy).2⟩
    have c5' : Rd W5 (W0.heap.size ≤ ·) 1 A3 nc (ii cf) := by
      subst hW5
      exact ((((Rd.of_own o3).mono fun q hq => (by omega : W0.heap.size ≤ q)).below hb4).setCell (p := ⟨w.heap.size, 5, none⟩) hne _).setCell (p := ⟨w.heap.size, 6, none⟩) hne _
    have s5' : Rd W5 (W0.heap.size ≤ ·) 1 A4 ns (bs sn) := by
      subst hW5
      have hz3 := hb3.size
      exact (((Rd.of_own o4).mono fun q hq => (by omega : W0.heap.size ≤ q)).setCell (p := ⟨w.heap.size, 5, none⟩) hne _).setCell (p := ⟨w.heap.size, 6, none⟩) hne _
    have hb5 : Below w.heap.size w W5 := by
      subst hW5
      have hz2 := HB2.out.1.size
      have hz3 := hb3.size
      exact (((HB2.out.1.drew.trans (hb3.mono (by omega))).trans (hb4.mono (by omega))).setCell (Nat.le_refl _) _).setCell (Nat.le_refl _) _
    have cp3 := own_cp o3
    have cp4 := own_cp o4
    rw [← hW5]
    have K := Lib.hid (And.intro r5 (And.intro d5 (And.intro c5' (And.intro s5' (And.intro hb5 (And.intro R2.out.2.2.1 (And.intro R2.out.2.2.2 (And.intro hz0 (And.intro cp3 cp4)))))))))
    obtain ⟨a0, a1, a2, a3, a4, a5, a6⟩ := x5.c7
    obtain ⟨q0, q1, q2, q3, q4, q5, q6⟩ := y5'.c7
    have p0 := y5'.f 0
    have p1 := y5'.f 1
    have p2 := y5'.f 2
    have p3 := y5'.f 3
    have p4 := y5'.f 4
    have p5 := y5'.f 5
    have p6 := y5'.f 6
    clear c0 c1 c2 c3 c4 c5 c6 f5 f6 z5 z6 k5 k6 y5 y6 g5 g6 hW5 x5 y5' r5 d5 c5' s5' hb5 hne h0z hz0 e2 hb3 hb4 o3 o4 X2 X3 X4 R2 HB2 cp3 cp4
    go_wp2_with fail
    refine bodyPost_ret (by simp [results, Tryz.results30, go_sem, q0, q1, q2, q3, q4, q5, q6]; rfl) rfl ?_
    obtain ⟨k1, k2, k3, k4, k5, k6, k7, k8, k9, k10⟩ := K.out
    have hne : ¬ W0.heap.size ≤ w.heap.size + 1 := by omega
    refine ⟨⟨tm, vt, b, t, A1, n, c1', L1, A3, nc, c3', cf, A4, ns, c4', sn⟩, rfl, ?_, ?_, ?_⟩
    · refine Sv.At.mono (ok := (W0.heap.size ≤ ·)) ?_ fun q hq => (by omega : w.heap.size ≤ q)
      refine Sv.At.keep (W := W5) ⟨k1, k2, k3, k4, k7, k9, k10⟩ fun q hq _ => ?_
      have hq2 : W0.heap.size ≤ q := hq
      iterate 7 refine (Below.heap_setCell _ _ _ q (by show q ≠ w.heap.size + 1; omega)).trans ?_
      rfl
    · unfold Sv.st
      dsimp only
      rw [k6]
    · exact ((((((k5.setCell (by simp) _).setCell (by simp) _).setCell (by simp) _).setCell (by simp) _).setCell (by simp) _).setCell (by simp) _).setCell (by simp) _
theorem kown_sv (s : Sv) (w : World) {ok : Nat → Prop} (h : s.At w ok) (hf : s.Fit) (hm : lmay s.b s.t (s.L.map en) = true) :
    Calls Tryz.prog 30 #[s.val] w (StOwn w s.st) :=
  kown_any _ _ _ _ _ _ _ _ _ _ _ _ _ _ _ _ w h.l.any h.dat (h.wel hf) (fun y hy => (hf.w y hy).2) hm hf.z.1 h.k1.1 h.k1.2 h.cf.any hf.z.2.1 h.sn.any (by have := hf.z.2.2; omega)
end Go.Proofs.YtlecglmiigdjlaaGreatDoor
namespace Go.Proofs.YtlecglmiigdjlaaGreatDoor
set_option linter.unusedVariables false
set_option linter.unusedSimpArgs false
theorem splice_ln {α : Type} {l cs : List α} {p : Nat} (h : p + cs.length ≤ l.length) : (splice l p cs).length = l.length := by unfold splice; simp; omega
theorem splice_off {α : Type} {l cs : List α} {p i : Nat} (h : p + cs.length ≤ l.length) (hi : ¬ (p ≤ i ∧ i < p + cs.length)) : (splice l p cs)[i]? = l[i]? := by
  unfold splice
  by_cases h1 : i < p
  · rw [List.getElem?_append_left (by simp; omega), List.getElem?_take]
    simp [h1]
  · rw [← List.append_assoc, List.getElem?_append_right (by simp; omega), List.getElem?_drop]
    congr 1
    simp
    omega
theorem splice_in {α : Type} {l cs : List α} {p k : Nat} (h : p + cs.length ≤ l.length) (hk : k < cs.length) : (splice l p cs)[p + k]? = cs[k]? := by
  unfold splice
  have hp : (l.take p).length = p := by simp; omega
  rw [List.getElem?_append_right (by omega), hp, List.getElem?_append_left (by omega)]
  congr 1
  omega
theorem splice_read {α : Type} {l cs : List α} {p : Nat} (h : p + cs.length ≤ l.length) : ((splice l p cs).drop p).take cs.length = cs := by
  apply List.ext_getElem?
  intro k
  rw [List.getElem?_take, List.getElem?_drop]
  split
  · rename_i hk; exact splice_in h hk
  · rw [List.getElem?_eq_none (by omega)]
/-- Writes that lie within n bytes. -/
def Fit (n : Nat) (q : List (Nat × List UInt8)) : Prop := ∀ x ∈ q, x.1 + x.2.length ≤ n
theorem lain_nil {l : List UInt8} : lain l [] = l := rfl
theorem lain_app {l : List UInt8} {a b : List (Nat × List UInt8)} : lain l (a ++ b) = lain (lain l a) b := by unfold lain; rw [List.foldl_append]
theorem lain_one {l : List UInt8} {p : Nat} {b : List UInt8} {q : List (Nat × List UInt8)} : lain l (q ++ [(p, b)]) = splice (lain l q) p b := by rw [lain_app]; rfl
theorem lain_len {q : List (Nat × List UInt8)} : ∀ {l : List UInt8}, Fit l.length q → (lain l q).length = l.length := by
  induction q with
  | nil => intro l _; rfl
  | cons x q ih =>
    intro l h
    have h1 := splice_ln (l := l) (cs := x.2) (p := x.1) (h x (by simp))
    show (lain (splice l x.1 x.2) q).length = _
    rw [ih (by rw [h1]; exact fun y hy => h y (by simp [hy])), h1]
theorem lain_off {i : Nat} {q : List (Nat × List UInt8)} : ∀ {l : List UInt8}, Fit l.length q → (∀ x ∈ q, ¬ (x.1 ≤ i ∧ i < x.1 + x.2.length)) → (lain l q)[i]? = l[i]? := by
  induction q with
  | nil => intro l _ _; rfl
  | cons x q ih =>
    intro l h h2
    have h0 := h x (by simp)
    have h1 := splice_ln (l := l) (cs := x.2) (p := x.1) h0
    show (lain (splice l x.1 x.2) q)[i]? = _
    rw [ih (by rw [h1]; exact fun y hy => h y (by simp [hy])) (fun y hy => h2 y (by simp [hy])), splice_off h0 (h2 x (by simp))]
/-- A remainder that is told. -/
def restL (keep : List Int) (i by_ : Nat) : Nat := match keep[i]? with
  | none => 0
  | some z => (z % (by_ : Int)).toNat
theorem restL_lt {keep : List Int} {i m : Nat} : restL keep i (m + 1) ≤ m := by
  unfold restL
  split
  · omega
  · rename_i z _
    have h1 := Int.emod_nonneg z (b := ((m + 1 : Nat) : Int)) (by omega)
    have h2 := Int.emod_lt_of_pos z (b := ((m + 1 : Nat) : Int)) (by omega)
    omega
/-- The writes that are kept when the power is back. -/
def keptQ (q : List (Nat × List UInt8)) (keep : List Int) : List (Nat × List UInt8) :=
  match q[restL keep 0 (q.length + 1)]? with
  | none => q
  | some x => q.take (restL keep 0 (q.length + 1)) ++ [(x.1, x.2.take (restL keep 1 (x.2.length + 1)))]
theorem keptQ_fit {n : Nat} {q : List (Nat × List UInt8)} {keep : List Int} (h : Fit n q) : Fit n (keptQ q keep) := by
  intro y hy
  unfold keptQ at hy
  split at hy
  · exact h y hy
  · rename_i x hx
    rcases List.mem_append.1 hy with h1 | h1
    · exact h y (List.mem_of_mem_take h1)
    · obtain rfl := List.mem_singleton.1 h1
      have := h x (List.mem_of_getElem? hx)
      simp only [List.length_take]
      omega
/-- Each write that is kept is a begin of one that was made. -/
theorem keptQ_of {q : List (Nat × List UInt8)} {keep : List Int} {y : Nat × List UInt8} (hy : y ∈ keptQ q keep) : ∃ x ∈ q, y.1 = x.1 ∧ y.2.length ≤ x.2.length := by
  unfold keptQ at hy
  split at hy
  · exact ⟨y, hy, rfl, Nat.le_refl _⟩
  · rename_i x hx
    rcases List.mem_append.1 hy with h1 | h1
    · exact ⟨y, List.mem_of_mem_take h1, rfl, Nat.le_refl _⟩
    · obtain rfl := List.mem_singleton.1 h1
      exact ⟨x, List.mem_of_getElem? hx, rfl, by simp only [List.length_take]; omega⟩
structure Dk.Ok (D : Dk) (z : Nat) : Prop where
  safe : D.safe.length = z
  fit : Fit z D.q
  now : D.now = lain D.safe D.q
  lo : 0 ≤ D.armed
  hi : D.armed ≤ 9223372036854775807
def Dk.write (D : Dk) (p : Int) (b : List UInt8) : Dk × Int := if D.withE p b.length = 0 then ((D.put p.toNat b).stepped, D.stepE) else (D, D.withE p b.length)
def Dk.sync (D : Dk) : Dk × Int := if D.withE 0 0 = 0 then (if D.armed = 1 then (D.stepped, 13) else (D.stepped.settled, 0)) else (D, D.withE 0 0)
def Dk.arm (D : Dk) (n : Int) : Dk × Int := if n < 0 then (D, 1) else ({ D with armed := if n < 4611686018427387904 then n + 1 else n }, 0)
def Dk.started (D : Dk) (keep : List Int) : Dk := { safe := lain D.safe (keptQ D.q keep), now := lain D.safe (keptQ D.q keep), q := [], armed := 0, off := false }
def Dk.read (D : Dk) (p n : Int) : List UInt8 × Int := if D.withE p n = 0 then ((D.now.drop p.toNat).take n.toNat, 0) else ([], D.withE p n)
def Dk.make (z : Nat) : Dk := { safe := List.replicate z 0, now := List.replicate z 0, q := [], armed := 0, off := false }
section
variable {D : Dk} {z : Nat}
theorem Dk.make_ok : (Dk.make z).Ok z := ⟨by simp [Dk.make], by simp [Fit, Dk.make], rfl, by simp [Dk.make], by simp [Dk.make]⟩
theorem Dk.Ok.nowlen (h : D.Ok z) : D.now.length = z := by rw [h.now, lain_len (by rw [h.safe]; exact h.fit), h.safe]
theorem Dk.withE_iff (h : D.Ok z) {p n : Int} : D.withE p n = 0 ↔ (0 ≤ p ∧ 0 ≤ n ∧ p + n ≤ z) ∧ D.off = false := by
  unfold Dk.withE
  rw [h.safe]
  split
  · constructor
    · intro h'; cases h'
    · intro h'; omega
  · split
    · rename_i h1 h2; simp [h2]
    · rename_i h1 h2; simp [h2]; omega
theorem Dk.withE_or {p n : Int} : D.withE p n = 0 ∨ D.withE p n = 1 ∨ D.withE p n = 13 := by
  unfold Dk.withE
  split
  · simp
  · split <;> simp
theorem Dk.Ok.stepped (h : D.Ok z) : D.stepped.Ok z := by
  unfold Dk.stepped
  have := h.lo; have := h.hi
  split
  · exact ⟨h.safe, h.fit, h.now, by show (0 : Int) ≤ 0; omega, by show (0 : Int) ≤ _; omega⟩
  · exact ⟨h.safe, h.fit, h.now, by show (0 : Int) ≤ max _ _; omega, by show max _ _ ≤ _; omega⟩
theorem Dk.Ok.put (h : D.Ok z) {p : Nat} {b : List UInt8} (hp : p + b.length ≤ z) : (D.put p b).Ok z := by
  refine ⟨h.safe, fun x hx => ?_, ?_, h.lo, h.hi⟩
  · rcases List.mem_append.1 hx with h1 | h1
    · exact h.fit x h1
    · obtain rfl := List.mem_singleton.1 h1
      exact hp
  · show splice D.now p b = lain D.safe (D.q ++ [(p, b)])
    rw [lain_one, h.now]
theorem Dk.Ok.settled (h : D.Ok z) : D.settled.Ok z :=
  ⟨(by show (lain D.safe D.q).length = z; rw [lain_len (by rw [h.safe]; exact h.fit), h.safe]), (fun x hx => by cases hx), h.now, h.lo, h.hi⟩
theorem Dk.Ok.write (h : D.Ok z) {p : Int} {b : List UInt8} : (D.write p b).1.Ok z := by
  unfold Dk.write
  split
  · rename_i h0
    have := (Dk.withE_iff h).1 h0
    exact (h.put (by omega)).stepped
  · exact h
theorem Dk.Ok.sync (h : D.Ok z) : D.sync.1.Ok z := by
  unfold Dk.sync
  split
  · split
    · exact h.stepped
    · exact h.stepped.settled
  · exact h
theorem Dk.Ok.arm (h : D.Ok z) {n : Int} (hn : n ≤ 9223372036854775807) : (D.arm n).1.Ok z := by
  unfold Dk.arm
  split
  · exact h
  · refine ⟨h.safe, h.fit, h.now, ?_, ?_⟩
    · show (0 : Int) ≤ if n < 4611686018427387904 then n + 1 else n
      split <;> omega
    · show (if n < 4611686018427387904 then n + 1 else n) ≤ 9223372036854775807
      split <;> omega
theorem Dk.Ok.started (h : D.Ok z) {keep : List Int} : (D.started keep).Ok z :=
  ⟨(by show (lain D.safe (keptQ D.q keep)).length = z; rw [lain_len (by rw [h.safe]; exact keptQ_fit h.fit), h.safe]), (fun x hx => by cases hx), rfl, (by show (0 : Int) ≤ 0; omega), (by show (0 : Int) ≤ _; omega)⟩
theorem Dk.Ok.read_len (h : D.Ok z) {p n : Int} (h0 : D.withE p n = 0) : ((D.now.drop p.toNat).take n.toNat).length = n.toNat := by
  have := (Dk.withE_iff h).1 h0
  have := h.nowlen
  simp
  omega
end
/-- Pieces at places of their own, 50 apart. -/
def spread (k : Nat) : List (List UInt8) → List (Nat × List UInt8)
  | [] => []
  | x :: l => (50 * k, x) :: spread (k + 1) l
theorem spread_len : ∀ {l : List (List UInt8)} {k : Nat}, (spread k l).length = l.length
  | [], _ => rfl
  | x :: l, k => by show (spread (k + 1) l).length + 1 = _; rw [spread_len]; rfl
theorem spread_snoc : ∀ {l : List (List UInt8)} {k : Nat} {x : List UInt8}, spread k (l ++ [x]) = spread k l ++ [(50 * (k + l.length), x)]
  | [], k, x => rfl
  | y :: l, k, x => by
    show (50 * k, y) :: spread (k + 1) (l ++ [x]) = (50 * k, y) :: (spread (k + 1) l ++ _)
    rw [spread_snoc]
    simp only [List.length_cons]
    rw [show k + 1 + l.length = k + (l.length + 1) by omega]
theorem spread_get : ∀ {l : List (List UInt8)} {k i : Nat} {x : List UInt8}, l[i]? = some x → (spread k l)[i]? = some (50 * (k + i), x)
  | [], _, _, _, h => by simp at h
  | y :: l, k, 0, x, h => by
    obtain rfl := Option.some.inj h
    rfl
  | y :: l, k, i + 1, x, h => by
    show (spread (k + 1) l)[i]? = _
    rw [spread_get (by simpa using h), show k + 1 + i = k + (i + 1) by omega]
theorem spread_take : ∀ {l : List (List UInt8)} {k i : Nat}, (spread k l).take i = spread k (l.take i)
  | [], k, i => by simp [spread]
  | y :: l, k, 0 => rfl
  | y :: l, k, i + 1 => by
    show (50 * k, y) :: (spread (k + 1) l).take i = (50 * k, y) :: spread (k + 1) (l.take i)
    rw [spread_take]
/-- The byte j of the piece i, or a nought. -/
def img (l : List (List UInt8)) (i j : Nat) : UInt8 := ((l[i]?.bind (·[j]?)).getD 0)
theorem fit_spread {l : List (List UInt8)} {z : Nat} (h : ∀ x ∈ l, x.length ≤ 40) (hz : 50 * l.length ≤ z) : Fit z (spread 0 l) := by
  suffices H : ∀ (l : List (List UInt8)) (k : Nat), (∀ x ∈ l, x.length ≤ 40) → ∀ y ∈ spread k l, y.1 + y.2.length ≤ 50 * (k + l.length) by
    intro y hy
    have := H l 0 h y hy
    omega
  intro l
  induction l with
  | nil => intro k _ y hy; cases hy
  | cons x l ih =>
    intro k h y hy
    rcases List.mem_cons.1 hy with rfl | hy
    · have := h x (by simp)
      simp only [List.length_cons]
      omega
    · have := ih (k + 1) (fun x hx => h x (by simp [hx])) y hy
      simp only [List.length_cons]
      omega
theorem lain_spread {z : Nat} (l : List (List UInt8)) (h : ∀ x ∈ l, x.length ≤ 40) (hz : 50 * l.length ≤ z) (i j : Nat) (hj : j < 50) (hi : 50 * i + j < z) : (lain (List.replicate z 0) (spread 0 l))[50 * i + j]? = some (img l i j) := by
  obtain ⟨n, hn⟩ : ∃ n, n = l.length := ⟨_, rfl⟩
  induction n generalizing l with
  | zero =>
    obtain rfl := List.eq_nil_of_length_eq_zero hn.symm
    simp [spread, lain, img, hi]
  | succ n ih =>
    have hne : l ≠ [] := fun e => by rw [e] at hn; cases hn
    obtain ⟨l', x, rfl⟩ : ∃ l' x, l = l' ++ [x] := ⟨l.dropLast, l.getLast hne, (List.dropLast_concat_getLast hne).symm⟩
    simp only [List.length_append, List.length_singleton] at hz hn
    have hl' : n = l'.length := by omega
    have h' : ∀ x ∈ l', x.length ≤ 40 := fun y hy => h y (by simp [hy])
    have hx := h x (by simp)
    rw [spread_snoc, lain_one]
    have hlen : (lain (List.replicate z (0 : UInt8)) (spread 0 l')).length = z := by
      rw [lain_len (by rw [List.length_replicate]; exact fit_spread h' (by omega)), List.length_replicate]
    by_cases hc : i = l'.length ∧ j < x.length
    · obtain ⟨rfl, hjx⟩ := hc
      rw [Nat.zero_add, splice_in (by rw [hlen]; omega) hjx]
      unfold img
      rw [List.getElem?_append_right (Nat.le_refl _)]
      simp [List.getElem?_eq_getElem hjx]
    · rw [splice_off (by rw [hlen]; omega) (by omega), ih l' h' (by omega) hl']
      congr 1
      unfold img
      by_cases hil : i < l'.length
      · rw [List.getElem?_append_left hil]
      · by_cases hie : i = l'.length
        · subst hie
          rw [List.getElem?_append_right (Nat.le_refl _), List.getElem?_eq_none (Nat.le_refl _)]
          simp [List.getElem?_eq_none (show x.length ≤ j by omega)]
        · rw [List.getElem?_eq_none (by omega), List.getElem?_eq_none (by simp; omega)]
/-- What is kept of pieces: so many, the next one in part. -/
def keptP (l : List (List UInt8)) (keep : List Int) : List (List UInt8) :=
  match l[restL keep 0 (l.length + 1)]? with
  | none => l
  | some x => l.take (restL keep 0 (l.length + 1)) ++ [x.take (restL keep 1 (x.length + 1))]
theorem keptQ_spread {l : List (List UInt8)} {keep : List Int} : keptQ (spread 0 l) keep = spread 0 (keptP l keep) := by
  unfold keptQ keptP
  rw [spread_len]
  have hr := restL_lt (keep := keep) (i := 0) (m := l.length)
  cases hx : l[restL keep 0 (l.length + 1)]? with
  | none =>
    have := List.getElem?_eq_none_iff.1 hx
    rw [List.getElem?_eq_none (by rw [spread_len]; omega)]
  | some x =>
    have hlt := (List.getElem?_eq_some_iff.1 hx).1
    rw [spread_get hx, spread_take, spread_snoc]
    simp only [Nat.zero_add, List.length_take]
    rw [show min (restL keep 0 (l.length + 1)) l.length = restL keep 0 (l.length + 1) by omega]
/-- The piece i as it is read behind it: so many bytes as they were, then noughts; all behind the piece M are noughts, all ahead of it whole. -/
theorem keptP_img {l : List (List UInt8)} {keep : List Int} : ∃ M, ∀ i x, l[i]? = some x → ∃ r, r ≤ x.length ∧ (∀ j, j < r → img (keptP l keep) i j = x.getD j 0) ∧ (∀ j, r ≤ j → img (keptP l keep) i j = 0) ∧ (i < M → r = x.length) ∧ (M < i → r = 0) := by
  have hr := restL_lt (keep := keep) (i := 0) (m := l.length)
  refine ⟨restL keep 0 (l.length + 1), fun i x hx => ?_⟩
  have hlt := (List.getElem?_eq_some_iff.1 hx).1
  unfold keptP
  generalize restL keep 0 (l.length + 1) = M at *
  have whole : img l i = fun j => x.getD j 0 := by
    funext j
    unfold img
    rw [hx]
    simp [List.getD_eq_getElem?_getD]
  cases hy : l[M]? with
  | none =>
    have := List.getElem?_eq_none_iff.1 hy
    refine ⟨x.length, Nat.le_refl _, fun j _ => by rw [whole], fun j hj => ?_, fun _ => rfl, fun h => by omega⟩
    rw [whole]
    simp [List.getD_eq_getElem?_getD, List.getElem?_eq_none hj]
  | some y =>
    dsimp only
    have hM := (List.getElem?_eq_some_iff.1 hy).1
    have htl : (l.take M).length = M := by simp; omega
    by_cases h1 : i < M
    · have hh : img (l.take M ++ [y.take (restL keep 1 (y.length + 1))]) i = fun j => x.getD j 0 := by
        rw [← whole]
        funext j
        unfold img
        rw [List.getElem?_append_left (by omega), List.getElem?_take]
        simp [h1]
      refine ⟨x.length, Nat.le_refl _, fun j _ => by rw [hh], fun j hj => ?_, fun _ => rfl, fun h => by omega⟩
      rw [hh]
      simp [List.getD_eq_getElem?_getD, List.getElem?_eq_none hj]
    · by_cases h2 : i = M
      · subst h2
        obtain rfl : x = y := Option.some.inj (hx.symm.trans hy)
        clear hy
        have hrr := restL_lt (keep := keep) (i := 1) (m := x.length)
        generalize restL keep 1 (x.length + 1) = r at *
        have hh : ∀ j, img (l.take i ++ [x.take r]) i j = ((x.take r)[j]?).getD 0 := by
          intro j
          unfold img
          rw [List.getElem?_append_right (by omega), htl]
          simp
        refine ⟨r, hrr, fun j hj => ?_, fun j hj => ?_, fun h => by omega, fun h => by omega⟩
        · rw [hh, List.getElem?_take]
          simp [hj, List.getD_eq_getElem?_getD]
        · rw [hh, List.getElem?_take]
          simp [Nat.not_lt.2 hj]
      · refine ⟨0, Nat.zero_le _, fun j hj => by omega, fun j _ => ?_, fun h => by omega, fun _ => rfl⟩
        unfold img
        rw [List.getElem?_eq_none (by simp; omega)]
        rfl
end Go.Proofs.YtlecglmiigdjlaaGreatDoor
namespace Go.Proofs.YtlecglmiigdjlaaGreatDoor
set_option linter.unusedVariables false
set_option linter.unusedSimpArgs false
/-- A tape: where its area ends and begins, where the next record begins, how many there are, the error that it died of. -/
structure Tp where
  en : Nat
  fr : Nat
  p : Nat
  n : Nat
  dead : Int
def mkAt (l : List UInt8) (p : Nat) : UInt8 := l.getD p 0
def lnAt (l : List UInt8) (p : Nat) : Nat := (l.getD (p + 1) 0).toNat * 16777216 + (l.getD (p + 2) 0).toNat * 65536 + (l.getD (p + 3) 0).toNat * 256 + (l.getD (p + 4) 0).toNat
def cutAt (l : List UInt8) (p n : Nat) : List UInt8 := (l.drop p).take n
/-- The records of the bytes from p up to e: each one's bytes, where the next one begins, whether the tape halts. -/
def recsF : Nat → List UInt8 → Nat → Nat → List (List UInt8) × Nat × Bool
  | 0, _, p, _ => ([], p, false)
  | f + 1, l, p, e => if p + 5 ≤ e then (if mkAt l p = 0 then ([], p, false) else if mkAt l p ≠ 1 ∨ e < p + 5 + lnAt l p then ([], p, true) else (cutAt l (p + 5) (lnAt l p) :: (recsF f l (p + 5 + lnAt l p) e).1, (recsF f l (p + 5 + lnAt l p) e).2)) else ([], p, false)
theorem recsF_step (l : List UInt8) (p e f : Nat) : recsF (f + 1) l p e = if p + 5 ≤ e then (if mkAt l p = 0 then ([], p, false) else if mkAt l p ≠ 1 ∨ e < p + 5 + lnAt l p then ([], p, true) else (cutAt l (p + 5) (lnAt l p) :: (recsF f l (p + 5 + lnAt l p) e).1, (recsF f l (p + 5 + lnAt l p) e).2)) else ([], p, false) := rfl
theorem recsF_up (l : List UInt8) (e : Nat) : ∀ (f p : Nat), e + 1 ≤ p + f → recsF (f + 1) l p e = recsF f l p e := by
  intro f
  induction f with
  | zero =>
    intro p h
    show (if p + 5 ≤ e then _ else _) = _
    rw [if_neg (by omega)]
    rfl
  | succ f ih =>
    intro p h
    by_cases h1 : p + 5 ≤ e
    · have := ih (p + 5 + lnAt l p) (by omega)
      rw [recsF_step l p e (f + 1), recsF_step l p e f, this]
    · rw [recsF_step l p e (f + 1), recsF_step l p e f, if_neg h1, if_neg h1]
theorem recsF_more (l : List UInt8) (e p f : Nat) (h : e + 1 ≤ p + f) : ∀ k, recsF (f + k) l p e = recsF f l p e := by
  intro k
  induction k with
  | zero => rfl
  | succ k ih => rw [← ih]; exact recsF_up l e (f + k) p (by omega)
def recs (l : List UInt8) (p e : Nat) : List (List UInt8) × Nat × Bool := recsF (e + 1) l p e
theorem recs_eq (l : List UInt8) (p e f : Nat) (h : e + 1 ≤ p + f) (hf : f ≤ e + 1) : recs l p e = recsF f l p e := by
  unfold recs
  obtain ⟨k, hk⟩ : ∃ k, e + 1 = f + k := ⟨e + 1 - f, by omega⟩
  rw [hk]
  exact recsF_more l e p f h k
section
variable {l : List UInt8} {p e : Nat}
theorem recs_no (h : ¬ p + 5 ≤ e) : recs l p e = ([], p, false) := by unfold recs; rw [recsF, if_neg h]
theorem recs_end (h : mkAt l p = 0) : recs l p e = ([], p, false) := by
  by_cases h1 : p + 5 ≤ e
  · unfold recs; rw [recsF, if_pos h1, if_pos h]
  · exact recs_no h1
theorem recs_halt (h : p + 5 ≤ e) (h0 : mkAt l p ≠ 0) (h1 : mkAt l p ≠ 1 ∨ e < p + 5 + lnAt l p) : recs l p e = ([], p, true) := by unfold recs; rw [recsF, if_pos h, if_neg h0, if_pos h1]
theorem recs_one (h : p + 5 + lnAt l p ≤ e) (h1 : mkAt l p = 1) : recs l p e = (cutAt l (p + 5) (lnAt l p) :: (recs l (p + 5 + lnAt l p) e).1, (recs l (p + 5 + lnAt l p) e).2) := by
  have h0 : mkAt l p ≠ 0 := by rw [h1]; decide
  rw [recs_eq l (p + 5 + lnAt l p) e e (by omega) (by omega)]
  unfold recs
  rw [recsF, if_pos (by omega), if_neg h0, if_neg (by rw [h1]; simp; omega)]
end
def enc4 (n : Nat) : List UInt8 := [UInt8.ofNat (n / 16777216), UInt8.ofNat (n / 65536), UInt8.ofNat (n / 256), UInt8.ofNat n]
def Tp.room (t : Tp) : Int := if t.p + 5 ≤ t.en then (t.en : Int) - t.p - 5 else -1
def Tp.out (t : Tp) (b : List UInt8) : List UInt8 := enc4 b.length ++ b ++ (if t.p + 5 + b.length + 5 ≤ t.en then [0] else [])
theorem Tp.out_len (t : Tp) (b : List UInt8) : (t.out b).length = 4 + b.length + (if t.p + 5 + b.length + 5 ≤ t.en then 1 else 0) := by
  unfold Tp.out enc4
  split <;> simp <;> omega
/-- A write, and a sync. -/
def Dk.safely (D : Dk) (p : Int) (b : List UInt8) : Dk × Int := if (D.write p b).2 = 0 then (D.write p b).1.sync else D.write p b
def Tp.append (t : Tp) (D : Dk) (b : List UInt8) : Tp × Dk × Int :=
  if t.dead ≠ 0 then (t, D, t.dead) else if 1048576 < b.length then (t, D, 2) else if t.room < b.length then (t, D, 10) else
  if (D.safely (t.p + 1 : Nat) (t.out b)).2 ≠ 0 then ({ t with dead := (D.safely (t.p + 1 : Nat) (t.out b)).2 }, D.safely (t.p + 1 : Nat) (t.out b)) else
  if ((D.safely (t.p + 1 : Nat) (t.out b)).1.safely t.p [1]).2 ≠ 0 then ({ t with dead := ((D.safely (t.p + 1 : Nat) (t.out b)).1.safely t.p [1]).2 }, (D.safely (t.p + 1 : Nat) (t.out b)).1.safely t.p [1]) else
  ({ t with p := t.p + 5 + b.length, n := t.n + 1 }, ((D.safely (t.p + 1 : Nat) (t.out b)).1.safely t.p [1]).1, 0)
def Tp.reset (t : Tp) (D : Dk) : Tp × Dk × Int :=
  if t.dead ≠ 0 then (t, D, t.dead) else
  if (D.safely t.fr [0]).2 ≠ 0 then ({ t with dead := (D.safely t.fr [0]).2 }, D.safely t.fr [0]) else ({ t with p := t.fr, n := 0 }, (D.safely t.fr [0]).1, 0)
/-- Where its numbers lie, within a disk of z bytes. -/
structure Tp.Ok (t : Tp) (z : Nat) : Prop where
  fp : t.fr ≤ t.p
  pe : t.p ≤ t.en
  ez : t.en ≤ z
  n5 : t.fr + t.n * 5 ≤ t.p
end Go.Proofs.YtlecglmiigdjlaaGreatDoor
namespace Go.Proofs.YtlecglmiigdjlaaGreatDoor
open Go.RowKit
set_option linter.unusedVariables false
set_option linter.unusedSimpArgs false
/-- A write that waits: its place, its bytes' slice, its bytes. -/
structure Wq where
  p : Nat
  A : Option Addr
  n : Nat
  m : Nat
  d : List UInt8
def wcell (y : Wq) : List Value := [.int .i64 y.p, .slice y.A y.n y.m]
theorem wcell_len (y : Wq) : (wcell y).length = 2 := rfl
theorem wcell_one (l : List Wq) : ∀ u ∈ flat wcell l, u.oneCell' = true := by
  induction l with
  | nil => intro u hu; cases hu
  | cons x l ih =>
    intro u hu
    rw [flat_cons, List.mem_append] at hu
    rcases hu with hu | hu
    · simp only [wcell, List.mem_cons, List.not_mem_nil, or_false] at hu
      rcases hu with rfl | rfl <;> rfl
    · exact ih u hu
def wq (y : Wq) : Nat × List UInt8 := (y.p, y.d)
/-- The queue's bytes: each lies within L, in none of the disk's own blocks. -/
def QDat (W : World) (L : Nat → Prop) (g s o : Nat) (Q : Option Addr) (qs : List Wq) : Prop := ∀ y ∈ qs, Rd W (fun b => L b ∧ b ≠ g ∧ b ≠ s ∧ b ≠ o ∧ Q.map (·.block) ≠ some b) 1 y.A y.n (bs y.d) ∧ y.n ≤ y.m ∧ y.m ≤ maxLen
/-- The disk D lies at g; all its blocks are of L. -/
structure DS (W : World) (L : Nat → Prop) (g : Nat) (D : Dk) (z s o : Nat) (cS cO : Nat) (Q : Option Addr) (nq cQ : Nat) (qs : List Wq) : Prop where
  bx : Bx W g #[.slice (some ⟨s, 0, none⟩) z cS, .slice (some ⟨o, 0, none⟩) z cO, .slice Q nq cQ, .int .i64 D.armed, .bool D.off]
  safe : W.ownsRow 0 5 1 (.slice (some ⟨s, 0, none⟩) z cS) z (bs D.safe)
  now : W.ownsRow 0 5 1 (.slice (some ⟨o, 0, none⟩) z cO) z (bs D.now)
  que : W.ownsRow 0 128 2 (.slice Q nq cQ) nq (flat wcell qs)
  dat : QDat W L g s o Q qs
  qd : qs.map wq = D.q
  lg : L g
  ls : L s
  lo : L o
  lq : ∀ b, Q.map (·.block) = some b → L b
  gs : g ≠ s
  go : g ≠ o
  so : s ≠ o
  gq : Q.map (·.block) ≠ some g
  sq : Q.map (·.block) ≠ some s
  oq : Q.map (·.block) ≠ some o
  lt : ∀ b, L b → b < W.heap.size
  z1 : 1 ≤ z
  z2 : z ≤ 4194304
/-- A disk, somewhere within L. -/
def DX (W : World) (L : Nat → Prop) (g : Nat) (D : Dk) (z : Nat) : Prop := ∃ s o cS cO Q nq cQ qs, DS W L g D z s o cS cO Q nq cQ qs ∧ D.Ok z
section
variable {W W' : World} {L L' : Nat → Prop} {g : Nat} {D : Dk} {z s o cS cO : Nat} {Q : Option Addr} {nq cQ : Nat} {qs : List Wq}
theorem DS.x (h : DS W L g D z s o cS cO Q nq cQ qs) (hk : D.Ok z) : DX W L g D z := ⟨s, o, cS, cO, Q, nq, cQ, qs, h, hk⟩
theorem own_kb {B : Nat} {e : TypeId} {size n m c : Nat} {A : Option Addr} {xs : List Value} (ho : W.ownsRow B e size (.slice A n c) m xs) (hk : ∀ b, A.map (·.block) = some b → W'.heap[b]? = W.heap[b]?) : W'.ownsRow B e size (.slice A n c) m xs := by
  refine ⟨ho.1, ?_⟩
  rcases ho.2 with h1 | ⟨g, cap, cur, h1, h2, h3, h4⟩
  · exact .inl h1
  · refine .inr ⟨g, cap, cur, h1, h2, ?_, h4⟩
    rw [hk g (by injection h1 with h1; rw [h1]; rfl), h3]
theorem own_zero {B : Nat} {e : TypeId} {size n m c : Nat} {A : Option Addr} {xs : List Value} (ho : W.ownsRow B e size (.slice A n c) m xs) : W.ownsRow 0 e size (.slice A n c) m xs := by
  refine ⟨ho.1, ?_⟩
  rcases ho.2 with h1 | ⟨g, cap, cur, h1, h2, h4⟩
  · exact .inl h1
  · exact .inr ⟨g, cap, cur, h1, Nat.zero_le _, h4⟩
/-- Where all of L's blocks are as they were. -/
theorem DS.keep (h : DS W L g D z s o cS cO Q nq cQ qs) (hk : ∀ b, L b → W'.heap[b]? = W.heap[b]?) (hz : W.heap.size ≤ W'.heap.size) : DS W' L g D z s o cS cO Q nq cQ qs :=
  ⟨h.bx.keep (hk g h.lg), own_kb h.safe (fun b hb => hk b (by injection hb with hb; exact hb ▸ h.ls)), own_kb h.now (fun b hb => hk b (by injection hb with hb; exact hb ▸ h.lo)), own_kb h.que (fun b hb => hk b (h.lq b hb)),
    fun y hy => ⟨(h.dat y hy).1.keep fun b hb _ => hk b hb.1, (h.dat y hy).2⟩, h.qd, h.lg, h.ls, h.lo, h.lq, h.gs, h.go, h.so, h.gq, h.sq, h.oq, fun b hb => Nat.lt_of_lt_of_le (h.lt b hb) hz, h.z1, h.z2⟩
theorem DS.below (h : DS W L g D z s o cS cO Q nq cQ qs) (hb : Below W.heap.size W W') : DS W' L g D z s o cS cO Q nq cQ qs := h.keep (fun b hl => hb.block b (h.lt b hl)) hb.size
theorem DS.drew (h : DS W L g D z s o cS cO Q nq cQ qs) : DS W.drew L g D z s o cS cO Q nq cQ qs := h.keep (fun _ _ => rfl) (Nat.le_refl _)
theorem DS.alloc (h : DS W L g D z s o cS cO Q nq cQ qs) (ob : Obj) : DS (W.alloc ob) L g D z s o cS cO Q nq cQ qs := h.below ((Below.refl _ _).alloc (Nat.le_refl _) ob)
theorem DS.nqs (h : DS W L g D z s o cS cO Q nq cQ qs) : qs.length = nq := Rd.flen (w := W) wcell_len (by omega) (Rd.of_own h.que)
theorem DS.qlen (h : DS W L g D z s o cS cO Q nq cQ qs) : D.q.length = nq := by rw [← h.qd, List.length_map]; exact h.nqs
theorem DS.up (h : DS W L g D z s o cS cO Q nq cQ qs) (hl : ∀ b, L b → L' b) (hlt : ∀ b, L' b → b < W.heap.size) : DS W L' g D z s o cS cO Q nq cQ qs :=
  ⟨h.bx, h.safe, h.now, h.que, fun y hy => ⟨(h.dat y hy).1.mono fun b hb => ⟨hl b hb.1, hb.2⟩, (h.dat y hy).2⟩, h.qd, hl _ h.lg, hl _ h.ls, hl _ h.lo, fun b hb => hl b (h.lq b hb), h.gs, h.go, h.so, h.gq, h.sq, h.oq, hlt, h.z1, h.z2⟩
theorem DX.keep (h : DX W L g D z) (hk : ∀ b, L b → W'.heap[b]? = W.heap[b]?) (hz : W.heap.size ≤ W'.heap.size) : DX W' L g D z := by
  obtain ⟨_, _, _, _, _, _, _, _, h, hk0⟩ := h
  exact (h.keep hk hz).x hk0
theorem DX.below (h : DX W L g D z) (hb : Below W.heap.size W W') : DX W' L g D z := by
  obtain ⟨_, _, _, _, _, _, _, _, h, hk0⟩ := h
  exact (h.below hb).x hk0
theorem DX.lt (h : DX W L g D z) : ∀ b, L b → b < W.heap.size := by
  obtain ⟨_, _, _, _, _, _, _, _, h, hk0⟩ := h
  exact h.lt
theorem DX.lg (h : DX W L g D z) : L g := by
  obtain ⟨_, _, _, _, _, _, _, _, h, hk0⟩ := h
  exact h.lg
theorem DX.ok (h : DX W L g D z) : D.Ok z := by
  obtain ⟨_, _, _, _, _, _, _, _, h, hk0⟩ := h
  exact hk0
/-- The words armed and off are other ones. -/
theorem DS.flags (h : DS W L g D z s o cS cO Q nq cQ qs) {a : Int} {b : Bool} (hb : Bx W' g #[.slice (some ⟨s, 0, none⟩) z cS, .slice (some ⟨o, 0, none⟩) z cO, .slice Q nq cQ, .int .i64 a, .bool b]) (hk : Only g W W') :
    DS W' L g { D with armed := a, off := b } z s o cS cO Q nq cQ qs :=
  ⟨hb, own_kb h.safe (fun k hk' => hk.block k (by injection hk' with e; have := h.gs; intro e2; exact this (e2.symm.trans e.symm))), own_kb h.now (fun k hk' => hk.block k (by injection hk' with e; have := h.go; intro e2; exact this (e2.symm.trans e.symm))), own_kb h.que (fun k hk' => hk.block k (fun e => h.gq (e ▸ hk'))),
    fun y hy => ⟨(h.dat y hy).1.keep fun b hb _ => hk.block b hb.2.1, (h.dat y hy).2⟩, h.qd, h.lg, h.ls, h.lo, h.lq, h.gs, h.go, h.so, h.gq, h.sq, h.oq, fun b hb => by rw [hk.size]; exact h.lt b hb, h.z1, h.z2⟩
end
theorem Only.set (W : World) (p : Addr) (v : Value) {g : Nat} (hp : p.block = g) : Only g W (W.setCell p v) := by
  subst hp
  exact ⟨rfl, rfl, rfl, by simp [World.setCell], fun i hi => Below.heap_setCell W p v i (fun e => hi e)⟩
theorem Only.trans {g : Nat} {W W' W2 : World} (h : Only g W W') (h2 : Only g W' W2) : Only g W W2 := ⟨h2.os.trans h.os, h2.tape.trans h.tape, h2.output.trans h.output, h2.size.trans h.size, fun i hi => (h2.block i hi).trans (h.block i hi)⟩
theorem Only.drew {g : Nat} {W W' : World} (h : Only g W W') : Only g W W'.drew := ⟨h.os, h.tape, h.output, h.size, h.block⟩
theorem Only.drews {g : Nat} {W : World} : Only g W W.drew := (Only.refl _ _).drew
/-- Behind a call at the disk: it is D', what it has now it had ahead or is new, and all other blocks are as they were. -/
def Aft (W : World) (L : Nat → Prop) (g : Nat) (D' : Dk) (z : Nat) (w' : World) : Prop := ∃ L', DX w' L' g D' z ∧ (∀ b, L' b → L b ∨ W.heap.size ≤ b) ∧ Kept L W w'
section
variable {W W' W2 : World} {L L' : Nat → Prop} {g : Nat} {D D' : Dk} {z : Nat}
theorem Aft.refl (h : DX W L g D z) : Aft W L g D z W := ⟨L, h, fun b hb => .inl hb, Kept.refl _ _⟩
theorem Aft.new {w : World} (h : DX W L g D z) (hb : Below W.heap.size W w) : Aft W L g D z w := ⟨L, h.below hb, fun b hb => .inl hb, Kept.of_new hb⟩
theorem Aft.same {w : World} (h : Aft W L g D z W') (hb : Below W'.heap.size W' w) : Aft W L g D z w := by
  obtain ⟨L', h1, h2, h3⟩ := h
  exact ⟨L', h1.below hb, h2, h3.trans (V := L) (Kept.of_below hb fun b h4 h5 => by omega) fun b _ h => h⟩
/-- One call behind the other. -/
theorem Kept.next (h : Kept L W W') (h2 : Kept L' W' W2) (hl : ∀ b, L' b → L b ∨ W.heap.size ≤ b) : Kept L W W2 := h.trans h2 fun b h3 h4 => by rcases hl b h4 with h5 | h5; exact h5; omega
theorem within_next {L2 : Nat → Prop} (h : Kept L W W') (hl : ∀ b, L' b → L b ∨ W.heap.size ≤ b) (hl2 : ∀ b, L2 b → L' b ∨ W'.heap.size ≤ b) : ∀ b, L2 b → L b ∨ W.heap.size ≤ b := fun b h2 => by
  rcases hl2 b h2 with h3 | h3
  · exact hl b h3
  · exact .inr (Nat.le_trans h.size h3)
end
/-- Blocks but one, if there is one, are as they were. -/
structure OnlyQ (q : Option Nat) (W W' : World) : Prop where
  os : W'.os = W.os
  tape : W'.tape = W.tape
  output : W'.output = W.output
  size : W'.heap.size = W.heap.size
  block : ∀ i, q ≠ some i → W'.heap[i]? = W.heap[i]?
theorem OnlyQ.refl (q : Option Nat) (W : World) : OnlyQ q W W := ⟨rfl, rfl, rfl, rfl, fun _ _ => rfl⟩
theorem OnlyQ.kept {q : Option Nat} {W W' : World} {U : Nat → Prop} (h : OnlyQ q W W') (hg : ∀ b, q = some b → U b) : Kept U W W' := ⟨h.os, h.tape, h.output, Nat.le_of_eq h.size.symm, fun i hi hu => h.block i (fun e => hu (hg i e))⟩
theorem Only.q {g : Nat} {W W' : World} (h : Only g W W') : OnlyQ (some g) W W' := ⟨h.os, h.tape, h.output, h.size, fun i hi => h.block i (fun e => hi (by rw [e]))⟩
theorem Only.cells (g : Nat) (vs : List Value) : ∀ (w : World) (o : Nat), Only g w (w.setCells g o vs) := by
  induction vs with
  | nil => intro w o; exact Only.refl _ _
  | cons v vs ih => intro w o; exact (Only.set w ⟨g, o, none⟩ v rfl).trans (ih _ (o + 1))
theorem run_clear_any {P : Program} (w : World) (t e ty : TypeId) (z : Value) (k : Nat) (ht : P.underlying t = some (.slice e)) (hv : ∀ w, (zeroValue e).run P w = .ok z w) (hk : z.cells.size = k) (h1 : ∀ i, i < k → (z.cells[i]!).oneCell' = true)
    {Q : Option Addr} {n c : Nat} {xs : List Value} (hown : w.ownsRow 0 e k (.slice Q n c) n xs) :
    ∃ w' xs', (Builtin.clear_ #[t] ty #[.slice Q n c]).run P w = .ok (.tuple #[]) w' ∧ w'.ownsRow 0 e k (.slice Q n c) n xs' ∧ OnlyQ (Q.map (·.block)) w w' := by
  rcases Nat.eq_zero_or_pos n with rfl | hn
  · refine ⟨w, xs, ?_, hown, OnlyQ.refl _ _⟩
    cases Q <;> simp [Builtin.clear_, run_underlying ht]
  · obtain ⟨g, cap, hv', hb, hlt⟩ := hown.form hn
    injection hv' with hv' _ hcap
    subst hv' hcap
    have hvs : ∀ v ∈ (Builtin.zeroCells z.cells n).toList, v.oneCell' = true := by
      intro v hv
      simp only [Builtin.zeroCells, Array.toList_map, Array.toList_range, List.mem_map, List.mem_range] at hv
      obtain ⟨i, hi, rfl⟩ := hv
      refine h1 _ ?_
      rw [← hk]
      exact Nat.mod_lt _ (by rcases Nat.eq_zero_or_pos z.cells.size with h0 | h0; (rw [h0] at hi; simp at hi); exact h0)
    have hlen : (Builtin.zeroCells z.cells n).toList.length = n * k := by simp [Builtin.zeroCells, hk]
    have hnc : n * k ≤ c * k := Nat.mul_le_mul_right k (own_le hown)
    have hfr : ∀ j, w.frozen? ⟨g, j, none⟩ = false := by
      intro j
      rcases hown.2 with ⟨h', _⟩ | ⟨g', cap', cur, h', _, hg, _⟩
      · simp at h'
      · simp only [Value.slice.injEq, Option.some.injEq, Addr.mk.injEq, and_true, true_and] at h'
        obtain ⟨rfl, rfl⟩ := h'
        simp [World.frozen?, hg]
    have hst := run_storeCells_cells (P := P) g 0 (Builtin.zeroCells z.cells n).toList 0 w (fun j hj => by simpa using own_isSome hown j (by omega)) (fun j _ => by simpa using hfr j) hvs
    refine ⟨w.setCells g (0 + 0) (Builtin.zeroCells z.cells n).toList, _, ?_, (own_setCells (w := w) (xs := xs) _ w xs (0 + 0) hown).1, (Only.cells g _ _ _).q⟩
    obtain ⟨n', rfl⟩ : ∃ n', n = n' + 1 := ⟨n - 1, by omega⟩
    simp [Builtin.clear_, run_underlying ht, hv, hst]
section
variable {W W' W4 : World} {L : Nat → Prop} {g : Nat} {D : Dk} {z s o cS cO : Nat} {Q : Option Addr} {nq cQ : Nat} {qs : List Wq}
/-- Bytes are laid into what is safe. -/
theorem DS.layS (h : DS W L g D z s o cS cO Q nq cQ qs) {p : Nat} {b : List UInt8} (hw : W'.ownsRow 0 5 1 (.slice (some ⟨s, 0, none⟩) z cS) z (splice (bs D.safe) p (bs b))) (ho : Only s W W') :
    DS W' L g { D with safe := splice D.safe p b } z s o cS cO Q nq cQ qs :=
  ⟨h.bx.keep (ho.block g h.gs), by show World.ownsRow _ _ _ _ _ _ (bs (splice D.safe p b)); rw [bs_splice]; exact hw, own_kb h.now (fun k hk => ho.block k (by injection hk with e; have := h.so; intro e2; exact this (e2.symm.trans e.symm))), own_kb h.que (fun k hk => ho.block k (fun e => h.sq (e ▸ hk))),
    fun y hy => ⟨(h.dat y hy).1.keep fun b hb _ => ho.block b hb.2.2.1, (h.dat y hy).2⟩, h.qd, h.lg, h.ls, h.lo, h.lq, h.gs, h.go, h.so, h.gq, h.sq, h.oq, fun b hb => by rw [ho.size]; exact h.lt b hb, h.z1, h.z2⟩
/-- Bytes are laid into what was written last. -/
theorem DS.layN (h : DS W L g D z s o cS cO Q nq cQ qs) {p : Nat} {b : List UInt8} (hw : W'.ownsRow 0 5 1 (.slice (some ⟨o, 0, none⟩) z cO) z (splice (bs D.now) p (bs b))) (ho : Only o W W') :
    DS W' L g { D with now := splice D.now p b } z s o cS cO Q nq cQ qs :=
  ⟨h.bx.keep (ho.block g h.go), own_kb h.safe (fun k hk => ho.block k (by injection hk with e; have := h.so; intro e2; exact this (e.trans e2))), by show World.ownsRow _ _ _ _ _ _ (bs (splice D.now p b)); rw [bs_splice]; exact hw, own_kb h.que (fun k hk => ho.block k (fun e => h.oq (e ▸ hk))),
    fun y hy => ⟨(h.dat y hy).1.keep fun b hb _ => ho.block b hb.2.2.2.1, (h.dat y hy).2⟩, h.qd, h.lg, h.ls, h.lo, h.lq, h.gs, h.go, h.so, h.gq, h.sq, h.oq, fun b hb => by rw [ho.size]; exact h.lt b hb, h.z1, h.z2⟩
/-- A write more waits: its bytes lie in a row of their own, A4 is the queue's row behind append. -/
theorem DS.push (h : DS W L g D z s o cS cO Q nq cQ qs) {p n3 c3 c4 k B : Nat} {A3 A4 : Option Addr} {d : List UInt8} (ho3 : W.ownsRow B 5 1 (.slice A3 n3 c3) n3 (bs d)) (h3 : ∀ b, A3.map (·.block) = some b → ¬ L b) (hk : k = nq + 1)
    (ho4 : W4.ownsRow 0 128 2 (.slice A4 k c4) k (flat wcell qs ++ [.int .i64 p, .slice A3 n3 c3])) (hg : W.grownBy W4 (Q.map (·.block))) (hat : A4.map (·.block) = Q.map (·.block) ∨ A4.map (·.block) = some W.heap.size) :
    DS (W4.setCell ⟨g, 2, none⟩ (.slice A4 k c4)) (fun b => L b ∨ A3.map (·.block) = some b ∨ A4.map (·.block) = some b) g { D with q := D.q ++ [(p, d)] } z s o cS cO A4 k c4 (qs ++ [⟨p, A3, n3, c3, d⟩]) := by
  subst hk
  have l3 := own_lt ho3
  have l4 := own_lt ho4
  have hz := hg.size
  have hgl := h.bx.lt
  have hsl := h.lt s h.ls
  have hol := h.lt o h.lo
  have k1 : ∀ i, i < W.heap.size → Q.map (·.block) ≠ some i → i ≠ g → (W4.setCell ⟨g, 2, none⟩ (.slice A4 (nq + 1) c4)).heap[i]? = W.heap[i]? := fun i hi hq hig => (Below.heap_setCell _ _ _ i (fun e => hig e)).trans (hg.block i hi (fun e => hq e.symm))
  have a4 : ∀ i, i < W.heap.size → Q.map (·.block) ≠ some i → A4.map (·.block) ≠ some i := by
    intro i hi hq e
    rcases hat with h1 | h1
    · rw [h1] at e; exact hq e
    · rw [h1] at e; injection e with e; omega
  have d3 : ∀ b, A3.map (·.block) = some b → b < W.heap.size ∧ b ≠ g ∧ b ≠ s ∧ b ≠ o ∧ Q.map (·.block) ≠ some b := fun b hb => ⟨(l3 b hb).2, fun e => h3 b hb (e ▸ h.lg), fun e => h3 b hb (e ▸ h.ls), fun e => h3 b hb (e ▸ h.lo), fun e => h3 b hb (h.lq b e)⟩
  refine ⟨?_, own_kb h.safe ?_, own_kb h.now ?_, ?_, ?_, ?_, .inl h.lg, .inl h.ls, .inl h.lo, fun b hb => .inr (.inr hb), h.gs, h.go, h.so, a4 g hgl h.gq, a4 s hsl h.sq, a4 o hol h.oq, ?_, h.z1, h.z2⟩
  · exact (h.bx.grown hg h.gq).set 2 _
  · intro b hb
    injection hb with hb
    dsimp only at hb
    subst hb
    exact k1 _ hsl h.sq h.gs.symm
  · intro b hb
    injection hb with hb
    dsimp only at hb
    subst hb
    exact k1 _ hol h.oq h.go.symm
  · rw [flat_append, flat_one]
    exact own_kb ho4 fun b hb => Below.heap_setCell _ _ _ b (fun e => a4 g hgl h.gq ((show b = g from e) ▸ hb))
  · intro y hy
    rcases List.mem_append.1 hy with h1 | h1
    · obtain ⟨r, h2⟩ := h.dat y h1
      refine ⟨?_, h2⟩
      refine ((r.lt (by omega)).keep fun b hb hlt => k1 b hlt hb.1.2.2.2.2 hb.1.2.1).mono fun b hb => ⟨.inl hb.1.1, hb.1.2.1, hb.1.2.2.1, hb.1.2.2.2.1, a4 b hb.2 hb.1.2.2.2.2⟩
    · obtain rfl := List.mem_singleton.1 h1
      have hm := own_form ho3
      obtain ⟨A', c', hv, hm1, hm2⟩ := hm
      injection hv with _ _ hv
      subst hv
      refine ⟨?_, hm1, hm2⟩
      have r := (Rd.of_own ho3).blk (ok' := fun b => A3.map (·.block) = some b) fun b hb => hb
      refine (r.keep fun b hb hlt => k1 b hlt (d3 b hb).2.2.2.2 (d3 b hb).2.1).mono fun b hb => ⟨.inr (.inl hb), (d3 b hb).2.1, (d3 b hb).2.2.1, (d3 b hb).2.2.2.1, a4 b (d3 b hb).1 (d3 b hb).2.2.2.2⟩
  · rw [List.map_append, h.qd]; rfl
  · intro b hb
    have hz4 : (W4.setCell ⟨g, 2, none⟩ (.slice A4 (nq + 1) c4)).heap.size = W4.heap.size := by simp [World.setCell]
    rw [hz4]
    rcases hb with h1 | h1 | h1
    · have := h.lt b h1; omega
    · have := (l3 b h1).2; omega
    · exact (l4 b h1).2
/-- The queue is a shorter one, in the same row; what its cells behind are, no matter. -/
theorem DS.cutQ (h : DS W L g D z s o cS cO Q nq cQ qs) {Q' : Option Addr} {k : Nat} {q' : List (Nat × List UInt8)} {qs' : List Wq} (hq : OnlyQ (Q.map (·.block)) W W') (hbl : Q'.map (·.block) = Q.map (·.block)) (ho : W'.ownsRow 0 128 2 (.slice Q' k cQ) k (flat wcell qs'))
    (hd : QDat W L g s o Q qs') (hm : qs'.map wq = q') :
    DS (W'.setCell ⟨g, 2, none⟩ (.slice Q' k cQ)) L g { D with q := q' } z s o cS cO Q' k cQ qs' := by
  have k1 : ∀ i, Q.map (·.block) ≠ some i → i ≠ g → (W'.setCell ⟨g, 2, none⟩ (.slice Q' k cQ)).heap[i]? = W.heap[i]? := fun i hq' hig => (Below.heap_setCell _ _ _ i (fun e => hig e)).trans (hq.block i hq')
  refine ⟨(h.bx.keep (hq.block g h.gq)).set 2 _, own_kb h.safe ?_, own_kb h.now ?_, own_kb ho fun b hb => Below.heap_setCell _ _ _ b (fun e => h.gq (by rw [← hbl, hb, e])), fun y hy => ⟨?_, (hd y hy).2⟩, hm, h.lg, h.ls, h.lo, by rw [hbl]; exact h.lq, h.gs, h.go, h.so, by rw [hbl]; exact h.gq, by rw [hbl]; exact h.sq, by rw [hbl]; exact h.oq, ?_, h.z1, h.z2⟩
  · intro b hb
    injection hb with hb
    dsimp only at hb
    subst hb
    exact k1 _ h.sq h.gs.symm
  · intro b hb
    injection hb with hb
    dsimp only at hb
    subst hb
    exact k1 _ h.oq h.go.symm
  · rw [hbl]
    exact (hd y hy).1.keep fun b hb _ => k1 b hb.2.2.2.2 hb.2.1
  · intro b hb
    have : (W'.setCell ⟨g, 2, none⟩ (.slice Q' k cQ)).heap.size = W.heap.size := by simp [World.setCell, hq.size]
    rw [this]
    exact h.lt b hb
end
def errD (k : Int) : Value := if k = 0 then .nilIface else .iface 69 (.int .i64 k)
section
variable {W W' : World} {L : Nat → Prop} {g : Nat} {D : Dk} {z s o cS cO : Nat} {Q : Option Addr} {nq cQ : Nat} {qs : List Wq}
theorem DS.slen (h : DS W L g D z s o cS cO Q nq cQ qs) : D.safe.length = z := (Rd.of_own h.safe).blen
theorem DS.nlen (h : DS W L g D z s o cS cO Q nq cQ qs) : D.now.length = z := (Rd.of_own h.now).blen
theorem DS.zc (h : DS W L g D z s o cS cO Q nq cQ qs) : z ≤ cS ∧ z ≤ cO ∧ nq ≤ cQ := ⟨own_le h.safe, own_le h.now, own_le h.que⟩
theorem DS.c (h : DS W L g D z s o cS cO Q nq cQ qs) : W.cell? ⟨g, 0, none⟩ = some (.slice (some ⟨s, 0, none⟩) z cS) ∧ W.cell? ⟨g, 1, none⟩ = some (.slice (some ⟨o, 0, none⟩) z cO) ∧ W.cell? ⟨g, 2, none⟩ = some (.slice Q nq cQ) ∧ W.cell? ⟨g, 3, none⟩ = some (.int .i64 D.armed) ∧ W.cell? ⟨g, 4, none⟩ = some (.bool D.off) := ⟨h.bx.c 0, h.bx.c 1, h.bx.c 2, h.bx.c 3, h.bx.c 4⟩
/-- The queue's cells are other ones. -/
theorem DS.reQ (h : DS W L g D z s o cS cO Q nq cQ qs) {q' : List (Nat × List UInt8)} {qs' : List Wq} (hq : OnlyQ (Q.map (·.block)) W W') (ho : W'.ownsRow 0 128 2 (.slice Q nq cQ) nq (flat wcell qs'))
    (hd : QDat W L g s o Q qs') (hm : qs'.map wq = q') :
    DS W' L g { D with q := q' } z s o cS cO Q nq cQ qs' := by
  refine ⟨h.bx.keep (hq.block g h.gq), own_kb h.safe ?_, own_kb h.now ?_, ho, fun y hy => ⟨?_, (hd y hy).2⟩, hm, h.lg, h.ls, h.lo, h.lq, h.gs, h.go, h.so, h.gq, h.sq, h.oq, ?_, h.z1, h.z2⟩
  · intro b hb
    injection hb with hb
    dsimp only at hb
    subst hb
    exact hq.block _ h.sq
  · intro b hb
    injection hb with hb
    dsimp only at hb
    subst hb
    exact hq.block _ h.oq
  · exact (hd y hy).1.keep fun b hb _ => hq.block b hb.2.2.2.2
  · intro b hb
    rw [hq.size]
    exact h.lt b hb
/-- A new row in the place of what was written last. -/
theorem DS.newNow (h : DS W L g D z s o cS cO Q nq cQ qs) {o' c' B : Nat} {l : List UInt8} (ho : W.ownsRow B 5 1 (.slice (some ⟨o', 0, none⟩) z c') z (bs l)) (hn : ¬ L o') :
    DS (W.setCell ⟨g, 1, none⟩ (.slice (some ⟨o', 0, none⟩) z c')) (fun b => L b ∨ b = o') g { D with now := l } z s o' cS c' Q nq cQ qs := by
  have k1 : ∀ i, i ≠ g → (W.setCell ⟨g, 1, none⟩ (.slice (some ⟨o', 0, none⟩) z c')).heap[i]? = W.heap[i]? := fun i hig => Below.heap_setCell _ _ _ i (fun e => hig e)
  have ne : ∀ b, L b → b ≠ o' := fun b hb e => hn (e ▸ hb)
  have hol := (own_lt ho o' rfl).2
  refine ⟨h.bx.set 1 _, own_kb h.safe ?_, own_kb (own_zero ho) ?_, own_kb h.que ?_, fun y hy => ⟨?_, (h.dat y hy).2⟩, h.qd, .inl h.lg, .inl h.ls, .inr rfl, fun b hb => .inl (h.lq b hb), h.gs, ne _ h.lg, ne _ h.ls, h.gq, h.sq, fun e => hn (h.lq _ e), ?_, h.z1, h.z2⟩
  · intro b hb
    injection hb with hb
    dsimp only at hb
    subst hb
    exact k1 _ h.gs.symm
  · intro b hb
    injection hb with hb
    dsimp only at hb
    subst hb
    exact k1 _ (ne _ h.lg).symm
  · exact fun b hb => k1 b fun e => h.gq (e ▸ hb)
  · exact ((h.dat y hy).1.keep fun b hb _ => k1 b hb.2.1).mono fun b hb => ⟨.inl hb.1, hb.2.1, hb.2.2.1, ne b hb.1, hb.2.2.2.2⟩
  · intro b hb
    have : (W.setCell ⟨g, 1, none⟩ (.slice (some ⟨o', 0, none⟩) z c')).heap.size = W.heap.size := by simp [World.setCell]
    rw [this]
    rcases hb with h1 | rfl
    · exact h.lt b h1
    · exact hol
end
end Go.Proofs.YtlecglmiigdjlaaGreatDoor
namespace Go.Proofs.YtlecglmiigdjlaaGreatDoor
open Go.RowKit
set_option maxRecDepth 100000
set_option linter.unusedVariables false
set_option linter.unusedSimpArgs false
def ErrPost (W : World) (k : Int) (e : Ending) (w' : World) : Prop := e = .returned (errD k) ∧ Below W.heap.size W w'
section
variable {L : Nat → Prop} {g : Nat} {D : Dk} {z s o cS cO : Nat} {Q : Option Addr} {nq cQ : Nat} {qs : List Wq}
set_option maxHeartbeats 1600000 in
theorem within_any (p n : Int) (hp : I64 p) (hn : I64 n) (w : World) (h : DS w L g D z s o cS cO Q nq cQ qs) :
    Calls Tryz.prog 114 #[.pointer (some ⟨g, 0, none⟩), .int .i64 p, .int .i64 n] w (ErrPost w (D.withE p n)) := by
  obtain ⟨k0, k1, k2, k3, k4⟩ := h.c
  have hz := h.z2
  unfold Dk.withE
  rw [h.slen]
  clear k1 k2 k3 h
  unfold I64 at hp hn
  by_cases h1 : p < 0
  · rw [if_pos (.inl h1)]
    go_enter Tryz.func114, Tryz.ntmps114
    go_wp2_with fail
    go_ret
    exact ⟨rfl, by first | exact Below.refl _ _ | exact (Below.refl _ _).drew⟩
  by_cases h2 : n < 0
  · rw [if_pos (.inr (.inl h2))]
    go_enter Tryz.func114, Tryz.ntmps114
    go_wp2_with fail
    go_ret
    exact ⟨rfl, by first | exact Below.refl _ _ | exact (Below.refl _ _).drew⟩
  by_cases h3 : (z : Int) < p
  · rw [if_pos (.inr (.inr (.inl h3)))]
    go_enter Tryz.func114, Tryz.ntmps114
    go_wp2_with fail
    go_ret
    exact ⟨rfl, by first | exact Below.refl _ _ | exact (Below.refl _ _).drew⟩
  have s1 : -9223372036854775808 ≤ (z : Int) - p := by omega
  have s2 : (z : Int) - p < 9223372036854775808 := by omega
  by_cases h4 : (z : Int) - p < n
  · rw [if_pos (.inr (.inr (.inr h4)))]
    go_enter Tryz.func114, Tryz.ntmps114
    go_wp2_with fail
    go_ret
    exact ⟨rfl, by first | exact Below.refl _ _ | exact (Below.refl _ _).drew⟩
  rw [if_neg (by omega)]
  cases ho : D.off
  · rw [ho] at k4
    go_enter Tryz.func114, Tryz.ntmps114
    go_wp2_with fail
    go_ret
    exact ⟨rfl, by first | exact Below.refl _ _ | exact (Below.refl _ _).drew⟩
  · rw [ho] at k4
    go_enter Tryz.func114, Tryz.ntmps114
    go_wp2_with fail
    go_ret
    exact ⟨rfl, by first | exact Below.refl _ _ | exact (Below.refl _ _).drew⟩
/-- One step: the disk, with its words of the power. -/
def StepPost (W : World) (L : Nat → Prop) (g : Nat) (D : Dk) (z s o cS cO : Nat) (Q : Option Addr) (nq cQ : Nat) (qs : List Wq) (e : Ending) (w' : World) : Prop := e = .returned (errD D.stepE) ∧ DS w' L g D.stepped z s o cS cO Q nq cQ qs ∧ Only g W w'
theorem step_any (w : World) (h : DS w L g D z s o cS cO Q nq cQ qs) (hk : D.Ok z) :
    Calls Tryz.prog 115 #[.pointer (some ⟨g, 0, none⟩)] w (StepPost w L g D z s o cS cO Q nq cQ qs) := by
  obtain ⟨k0, k1, k2, k3, k4⟩ := h.c
  have f3 := h.bx.f 3
  have f4 := h.bx.f 4
  have l0 := hk.lo
  have l1 := hk.hi
  have H := Lib.hid h
  unfold StepPost Dk.stepE Dk.stepped
  clear h hk k0 k1 k2
  by_cases h1 : D.armed = 1
  · rw [if_pos h1, if_pos h1]
    rw [h1] at k3
    go_enter Tryz.func115, Tryz.ntmps115
    go_wp2_with fail
    go_ret
    have ho : Only g w ((w.setCell ⟨g, 4, none⟩ (.bool true)).setCell ⟨g, 3, none⟩ (.int .i64 0)) := (Only.set w ⟨g, 4, none⟩ _ rfl).trans (Only.set _ ⟨g, 3, none⟩ _ rfl)
    exact ⟨rfl, H.out.flags ((H.out.bx.set 4 (.bool true)).set 3 (.int .i64 0)) ho, ho⟩
  · rw [if_neg h1, if_neg h1]
    by_cases h0 : D.armed = 0
    · rw [h0] at k3
      rw [h0]
      have hm : max (0 : Int) (0 - 1) = 0 := by decide
      rw [hm]
      go_enter Tryz.func115, Tryz.ntmps115
      go_wp2_with fail
      go_ret
      exact ⟨rfl, H.out.flags (H.out.bx.set 3 (.int .i64 0)) (Only.set _ _ _ rfl), Only.set _ _ _ rfl⟩
    · have hm : max (0 : Int) (D.armed - 1) = D.armed - 1 := by omega
      rw [hm]
      have l2 : 2 ≤ D.armed := by omega
      go_enter Tryz.func115, Tryz.ntmps115
      go_wp2_with fail
      go_ret
      exact ⟨rfl, H.out.flags (H.out.bx.set 3 (.int .i64 (D.armed - 1))) (Only.set _ _ _ rfl), Only.set _ _ _ rfl⟩
end
theorem bs_noughts (z : Nat) : (madeCells #[.int .u8 0] z).toList = bs (List.replicate z 0) := by
  rw [toList_madeCells_one]
  simp [bs]
theorem size_made (z : Nat) : (madeCells #[.int .u8 0] z).size = z * 1 := by
  rw [size_madeCells, Nat.mul_one]
theorem DS.made (w : World) (z s o : Nat) (h1 : 1 ≤ z) (h2 : z ≤ 4194304) (hso : (s = w.heap.size ∧ o = w.heap.size + 1) ∨ (s = w.heap.size + 1 ∧ o = w.heap.size)) :
    DS (((w.alloc (.cells (madeCells #[.int .u8 0] z) 5)).alloc (.cells (madeCells #[.int .u8 0] z) 5)).alloc (.cells #[.slice (some ⟨s, 0, none⟩) z z, .slice (some ⟨o, 0, none⟩) z z, .slice none 0 0, .int .i64 0, .bool false] 124))
      (fun b => w.heap.size ≤ b ∧ b < w.heap.size + 3) (w.heap.size + 2) (Dk.make z) z s o z z none 0 0 [] := by
  have o1 : ∀ ob, (((w.alloc (.cells (madeCells #[.int .u8 0] z) 5)).alloc (.cells (madeCells #[.int .u8 0] z) 5)).alloc ob).ownsRow 0 5 1 (.slice (some ⟨w.heap.size, 0, none⟩) z z) z (bs (List.replicate z 0)) := by
    intro ob
    rw [← bs_noughts]
    exact own_below (own_below (World.ownsRow_lit w _ z (Nat.zero_le _) (by unfold maxLen; omega) (size_made z)) ((Below.refl _ _).alloc (Nat.le_refl _) _)) ((Below.refl _ _).alloc (Nat.le_refl _) _)
  have o2 : ∀ ob, (((w.alloc (.cells (madeCells #[.int .u8 0] z) 5)).alloc (.cells (madeCells #[.int .u8 0] z) 5)).alloc ob).ownsRow 0 5 1 (.slice (some ⟨w.heap.size + 1, 0, none⟩) z z) z (bs (List.replicate z 0)) := by
    intro ob
    rw [← bs_noughts]
    have := World.ownsRow_lit (base := 0) (e := 5) (size := 1) (w.alloc (.cells (madeCells #[.int .u8 0] z) 5)) (madeCells #[.int .u8 0] z) z (Nat.zero_le _) (by unfold maxLen; omega) (size_made z)
    rw [World.size_alloc] at this
    exact own_below this ((Below.refl _ _).alloc (Nat.le_refl _) _)
  have key : ∀ s o, (s = w.heap.size ∧ o = w.heap.size + 1) ∨ (s = w.heap.size + 1 ∧ o = w.heap.size) → s < w.heap.size + 2 ∧ w.heap.size ≤ s ∧ o < w.heap.size + 2 ∧ w.heap.size ≤ o ∧ s ≠ o := by intro s o h; omega
  obtain ⟨q1, q2, q3, q4, q5⟩ := key s o hso
  refine ⟨Bx.new _ _ _ (by simp), ?_, ?_, own_nil _ _ _ _ _ rfl, (fun y hy => by cases hy), rfl, ⟨by omega, by omega⟩, ⟨q2, by omega⟩, ⟨q4, by omega⟩, (fun b hb => by cases hb), by omega, by omega, q5, (by intro h; cases h), (by intro h; cases h), (by intro h; cases h), (fun b hb => by simp; omega), h1, h2⟩
  · rcases hso with ⟨rfl, rfl⟩ | ⟨rfl, rfl⟩
    · exact o1 _
    · exact o2 _
  · rcases hso with ⟨rfl, rfl⟩ | ⟨rfl, rfl⟩
    · exact o2 _
    · exact o1 _
/-- What New makes. -/
def DNewPost (W : World) (z : Nat) (e : Ending) (w' : World) : Prop := ∃ L g, e = .returned (.tuple #[.pointer (some ⟨g, 0, none⟩), .nilIface]) ∧ DX w' L g (Dk.make z) z ∧ (∀ b, L b → W.heap.size ≤ b) ∧ Below W.heap.size W w'
set_option maxHeartbeats 1600000 in
theorem dnew_any (z : Nat) (h1 : 1 ≤ z) (h2 : z ≤ 4194304) (w : World) : Calls Tryz.prog 32 #[.int .i64 z] w (DNewPost w z) := by
  have g1 : ((z : Int) < 1) = False := by simp; omega
  have g2 : decide ((z : Int) < 1) = false := by simp; omega
  have g3 : decide ((4194304 : Int) < z) = false := by simp; omega
  obtain ⟨i, hi, hz, hsize, hby⟩ := info_parts u8_elem
  have hmk : ∀ w : World, (Instr.makeSlice 33 (.int .i64 (z : Int)) (.int .i64 (z : Int))).run Tryz.prog w = .ok (.slice (some ⟨w.heap.size, 0, none⟩) z z) (w.alloc (.cells (madeCells #[.int .u8 0] z) 5)) := by
    intro w
    have hr := run_make (P := Tryz.prog) w 33 5 i (.int .u8 0) Tryz.underlying33 hi hz .i64 .i64 z z (by omega) (Int.le_refl _) (by rw [hby]; omega) (by omega)
    simp only [Int.toNat_natCast, hsize, Nat.mul_one] at hr
    exact hr
  clear hi hz hsize hby
  go_enter Tryz.func32, Tryz.ntmps32
  go_wp2_with fail
  go_region
  all_goals
    go_wp2_with fail
    go_ret2
    have b3 : ∀ ob1 ob2 ob3, Below w.heap.size w (((w.drew.alloc ob1).alloc ob2).alloc ob3) := fun _ _ _ => (((Below.refl _ _).drew.alloc (Nat.le_refl _) _).alloc (by simp) _).alloc (by simp; omega) _
    first
      | exact ⟨_, _, rfl, (DS.made w.drew z _ _ h1 h2 (.inl ⟨rfl, rfl⟩)).x Dk.make_ok, (fun b hb => hb.1), b3 _ _ _⟩
      | exact ⟨_, _, rfl, (DS.made w.drew z _ _ h1 h2 (.inr ⟨rfl, rfl⟩)).x Dk.make_ok, (fun b hb => hb.1), b3 _ _ _⟩
/-- A remainder of a list. -/
theorem drest_any (A : Option Addr) (n c : Nat) (keep : List Int) (i m : Nat) (w : World) (hr : Rd w T 1 A n (ii keep)) (hk : ∀ x ∈ keep, I64 x) (hi : i ≤ 1) (hm : m ≤ 4194304) :
    Calls Tryz.prog 56 #[.slice A n c, .int .i64 i, .int .i64 (m + 1 : Nat)] w (fun e w' => e = .returned (.int .i64 (restL keep i (m + 1) : Nat)) ∧ w' = w) := by
  have hl : keep.length = n := by have := hr.1; simp [ii] at this; omega
  unfold restL
  by_cases h : n ≤ i
  · have h' : (n : Int) ≤ i := by omega
    rw [List.getElem?_eq_none (by omega)]
    go_enter Tryz.func56, Tryz.ntmps56
    go_wp2_with fail
    go_ret
    exact ⟨rfl, rfl⟩
  · obtain ⟨b, o, rfl, _, hb, hc⟩ := hr.plain (by omega) (by omega)
    obtain ⟨x, hx⟩ : ∃ x, keep[i]? = some x := ⟨_, List.getElem?_eq_getElem (by omega)⟩
    have hx' := hk x (List.mem_of_getElem? hx)
    have c0 : w.cell? ⟨b, o + i, none⟩ = some (.int .i64 x) := hc i _ (by simp [ii, hx])
    rw [hx]
    have hm1 : (0 : Int) < ((m + 1 : Nat) : Int) := by omega
    have r1 := Int.tmod_lt_of_pos x hm1
    have r2 : -((m + 1 : Nat) : Int) < x.tmod ((m + 1 : Nat) : Int) := by
      have := Int.lt_tmod_of_pos x hm1
      omega
    obtain ⟨t, ht⟩ : ∃ t, t = x.tmod ((m + 1 : Nat) : Int) := ⟨_, rfl⟩
    have e2 : (t + ((m + 1 : Nat) : Int)).tmod ((m + 1 : Nat) : Int) = ((x % ((m + 1 : Nat) : Int)).toNat : Int) := by
      rw [Int.toNat_of_nonneg (Int.emod_nonneg _ (by omega)), Int.tmod_eq_emod_of_nonneg (by omega), ht, Int.add_emod_right]
      rw [Int.tmod_def, Int.sub_emod, Int.mul_emod_right]
      simp
    obtain ⟨M, hM⟩ : ∃ M : Int, M = ((m + 1 : Nat) : Int) := ⟨_, rfl⟩
    rw [← hM] at ht e2 r1 r2 hm1 ⊢
    dsimp only
    rw [← ht] at r1 r2
    have hM2 : M ≤ 4194305 := by omega
    have hw1 : Int.tmod x M = t := ht.symm
    obtain ⟨res, hres⟩ : ∃ res : Nat, res = (x % M).toNat := ⟨_, rfl⟩
    rw [← hres] at e2 ⊢
    have hin : (i : Int) < n := by omega
    have hM0 : ¬ M = 0 := by omega
    have a1 : -9223372036854775808 ≤ t + M := by omega
    have a2 : t + M < 9223372036854775808 := by omega
    unfold I64 at hx'
    clear hres hM ht
    have E2 := Lib.hid e2
    have W1 := Lib.hid hw1
    go_enter Tryz.func56, Tryz.ntmps56
    go_wp2_with fail
    go_ret
    exact ⟨rfl, rfl⟩
end Go.Proofs.YtlecglmiigdjlaaGreatDoor
