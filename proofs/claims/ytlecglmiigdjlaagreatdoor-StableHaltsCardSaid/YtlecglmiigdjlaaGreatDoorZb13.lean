/- Walk: whether the same is kept: stable.same. (Printed by mksame2.py.)
   A disk in plain words; its object.
   A pack.Writer that lies somewhere within U: what is laid may lie anywhere else, also behind it.
   A writer of the call's own, all along a call: it lies above what was there at W0.
   Walk of the law's longEntries. -/
import Derived.Test.YtlecglmiigdjlaaGreatDoorZb12
import Derived.Test.YtlecglmiigdjlaaGreatDoorZb0
import Derived.Test.YtlecglmiigdjlaaGreatDoorZb1
import Derived.Laws.CopyOwn
import Derived.Test.YtlecglmiigdjlaaGreatDoorZb2
import Derived.Test.YtlecglmiigdjlaaGreatDoorZb8
namespace Go.Proofs.YtlecglmiigdjlaaGreatDoor
open Go.RowKit
set_option maxRecDepth 100000
set_option linter.unusedVariables false
set_option linter.unusedSimpArgs false
theorem st_iff {s s' : St} : s = s' ↔ s.tm = s'.tm ∧ s.vt = s'.vt ∧ s.b = s'.b ∧ s.t = s'.t ∧ s.l = s'.l ∧ s.cf = s'.cf ∧ s.sn = s'.sn := by
  constructor
  · rintro rfl; exact ⟨rfl, rfl, rfl, rfl, rfl, rfl, rfl⟩
  · rintro ⟨h1, h2, h3, h4, h5, h6, h7⟩
    cases s; cases s'
    dsimp only at *
    rw [h1, h2, h3, h4, h5, h6, h7]
instance decSt (s s' : St) : Decidable (s = s') := decidable_of_iff' _ st_iff
set_option maxHeartbeats 3200000 in
theorem same_any (s z : Sv) (w : World) {ok ok' : Nat → Prop} (h : s.At w ok) (h' : z.At w ok') (hf : s.Fit) (hf' : z.Fit) :
    Calls Tryz.prog 27 #[s.val, z.val] w (BoolPost w (decide (s.st = z.st))) := by
  obtain ⟨W0, hW0⟩ : ∃ W0, W0 = (w.alloc (.cells s.cells 35)).alloc (.cells z.cells 35) := ⟨_, rfl⟩
  have b0 : Bx W0 w.heap.size s.cells := by subst hW0; exact (Bx.new _ _ _ rfl).alloc _
  have b1 : Bx W0 (w.heap.size + 1) z.cells := by subst hW0; exact Bx.new _ _ _ (by simp)
  have hbe : Below w.heap.size w W0 := by subst hW0; exact ((Below.refl _ _).alloc (Nat.le_refl _) _).alloc (by simp) _
  have a0 := h.below hbe
  have a1 := h'.below hbe
  have hef := eqFunc_any s.A s.n s.c s.L z.A z.n z.c z.L W0 a0.l a1.l (fun x hx => (a0.d x hx).1.any) (fun x hx => (a1.d x hx).1.any) hf.z.1 hf'.z.1
  have hcf := fun W (hb : Below W0.heap.size W0 W) => confEq_any s.C s.nc s.cc z.C z.nc z.cc s.cf z.cf W (a0.cf.below hb) (a1.cf.below hb) hf.z.2.1 hf'.z.2.1
  have hbq := fun W (hb : Below W0.heap.size W0 W) => bytesEq_any s.S s.ns s.cs z.S z.ns z.cs s.sn z.sn W (a0.sn.below hb) (a1.sn.below hb)
  have hno : ∀ p : Prop, (s.st = z.st → p) → ¬ p → decide (s.st = z.st) = false := fun p h h2 => decide_eq_false fun e => h2 (h e)
  have F : ∀ W, Below W0.heap.size W0 W → (W.cell? ⟨w.heap.size, 0, none⟩ = some (.int .i64 s.tm) ∧ W.cell? ⟨w.heap.size, 1, none⟩ = some (.int .i64 s.vt) ∧ W.cell? ⟨w.heap.size, 2, none⟩ = some (.int .i64 s.b) ∧ W.cell? ⟨w.heap.size, 3, none⟩ = some (.int .i64 s.t) ∧ W.cell? ⟨w.heap.size, 4, none⟩ = some (.slice s.A s.n s.c) ∧ W.cell? ⟨w.heap.size, 5, none⟩ = some (.slice s.C s.nc s.cc) ∧ W.cell? ⟨w.heap.size, 6, none⟩ = some (.slice s.S s.ns s.cs)) ∧ (W.cell? ⟨w.heap.size + 1, 0, none⟩ = some (.int .i64 z.tm) ∧ W.cell? ⟨w.heap.size + 1, 1, none⟩ = some (.int .i64 z.vt) ∧ W.cell? ⟨w.heap.size + 1, 2, none⟩ = some (.int .i64 z.b) ∧ W.cell? ⟨w.heap.size + 1, 3, none⟩ = some (.int .i64 z.t) ∧ W.cell? ⟨w.heap.size + 1, 4, none⟩ = some (.slice z.A z.n z.c) ∧ W.cell? ⟨w.heap.size + 1, 5, none⟩ = some (.slice z.C z.nc z.cc) ∧ W.cell? ⟨w.heap.size + 1, 6, none⟩ = some (.slice z.S z.ns z.cs)) := fun W hb => ⟨Sv.c7 (b0.below hb), Sv.c7 (b1.below hb)⟩
  obtain ⟨⟨c0, c1, c2, c3, c4, c5, c6⟩, d0, d1, d2, d3, d4, d5, d6⟩ := F W0 (Below.refl _ _)
  have HW := Lib.hid hW0
  have Hbe := Lib.hid hbe
  have Hef := Lib.hid hef
  have Hcf := Lib.hid hcf
  have Hbq := Lib.hid hbq
  have FF := Lib.hid F
  clear hW0 b0 b1 hbe a0 a1 hef hcf hbq F h h' hf hf'
  by_cases e0 : s.tm = z.tm
  · skip
    by_cases e1 : s.vt = z.vt
    · skip
      by_cases e2 : s.b = z.b
      · skip
        by_cases e3 : s.t = z.t
        · skip
          have q0 : (s.tm != z.tm) = false := by simpa using e0
          have q1 : (s.vt != z.vt) = false := by simpa using e1
          have q2 : (s.b != z.b) = false := by simpa using e2
          have q3 : (s.t != z.t) = false := by simpa using e3
          have hcase : ∀ a b c : Bool, decide (s.L.map en = z.L.map en) = a → decide (s.cf = z.cf) = b → decide (s.sn = z.sn) = c → decide (s.st = z.st) = (a && b && c) := by
            rintro a b c rfl rfl rfl
            by_cases h : s.st = z.st
            · have h2 := (st_iff.1 h).2.2.2.2
              rw [decide_eq_true h, decide_eq_true (show s.L.map en = z.L.map en from h2.1), decide_eq_true (show s.cf = z.cf from h2.2.1), decide_eq_true (show s.sn = z.sn from h2.2.2)]
              rfl
            · rw [decide_eq_false h]
              symm
              simp only [Bool.and_eq_false_iff, decide_eq_false_iff_not]
              by_cases k1 : s.L.map en = z.L.map en
              · by_cases k2 : s.cf = z.cf
                · exact .inr fun k3 => h (st_iff.2 ⟨e0, e1, e2, e3, k1, k2, k3⟩)
                · exact .inl (.inr k2)
              · exact .inl (.inl k1)
          obtain ⟨a, ha⟩ : ∃ a, decide (s.L.map en = z.L.map en) = a := ⟨_, rfl⟩
          obtain ⟨b, hb⟩ : ∃ b, decide (s.cf = z.cf) = b := ⟨_, rfl⟩
          obtain ⟨c, hc⟩ : ∃ c, decide (s.sn = z.sn) = c := ⟨_, rfl⟩
          have Hall := Lib.hid (hcase a b c ha hb hc)
          have Hef2 := Hef.out
          rw [ha] at Hef2
          have Hef3 := Lib.hid Hef2
          have hcf2 : (∀ W, Below W0.heap.size W0 W → Calls Tryz.prog 65 #[.slice s.C s.nc s.cc, .slice z.C z.nc z.cc] W (BoolPost W b)) := fun W h => by rw [← hb]; exact Hcf.out W h
          have Hcf2 := Lib.hid hcf2
          have hbq2 : (∀ W, Below W0.heap.size W0 W → Calls Tryz.prog 66 #[.slice s.S s.ns s.cs, .slice z.S z.ns z.cs] W (fun e w' => e = .returned (.bool c) ∧ w' = W)) := fun W h => by rw [← hc]; exact Hbq.out W h
          have Hbq2 := Lib.hid hbq2
          rw [Hall.out]
          clear Hall hcase ha hb hc Hef2 hcf2 hbq2 hno e0 e1 e2 e3
          unfold Sv.val stA
          go_enter Tryz.func27, Tryz.ntmps27
          go_upto_region 1 with (fail)
          have HW' := HW.out
          unfold Sv.cells at HW'
          rw [← HW']
          clear HW'
          go_wp2_with fail
          refine Hef3.out.mono ?_
          rintro e w1 ⟨rfl, hb1⟩
          have K1 := Lib.hid hb1
          clear hb1 c0 c1 c2 c3 c4 c5 c6 d0 d1 d2 d3 d4 d5 d6
          obtain ⟨⟨c0, c1, c2, c3, c4, c5, c6⟩, d0, d1, d2, d3, d4, d5, d6⟩ := FF.out w1 K1.out
          cases a
          · go_wp2_with fail
            go_ret
            exact ⟨ret_bool (by simp), Hbe.out.trans (K1.out.mono Hbe.out.size)⟩
          go_wp2_with fail
          refine (Hcf2.out w1 K1.out).mono ?_
          rintro e w2 ⟨rfl, hb2⟩
          have K2 := Lib.hid (K1.out.trans (hb2.mono K1.out.size))
          clear hb2 c0 c1 c2 c3 c4 c5 c6 d0 d1 d2 d3 d4 d5 d6
          obtain ⟨⟨c0, c1, c2, c3, c4, c5, c6⟩, d0, d1, d2, d3, d4, d5, d6⟩ := FF.out w2 K2.out
          cases b
          · go_wp2_with fail
            go_ret
            exact ⟨ret_bool (by simp), Hbe.out.trans (K2.out.mono Hbe.out.size)⟩
          go_wp2_with fail
          refine (Hbq2.out w2 K2.out).mono ?_
          rintro e w3 ⟨rfl, rfl⟩
          go_wp2_with fail
          go_ret
          exact ⟨ret_bool (by simp), Hbe.out.trans (K2.out.mono Hbe.out.size)⟩
        · skip
          have q0 : (s.tm != z.tm) = false := by simpa using e0
          have q1 : (s.vt != z.vt) = false := by simpa using e1
          have q2 : (s.b != z.b) = false := by simpa using e2
          have q3 : (s.t != z.t) = true := by simpa using e3
          rw [hno _ (fun e => (st_iff.1 e).2.2.2.1) e3]
          clear hno e0 e1 e2 e3
          unfold Sv.val stA
          go_enter Tryz.func27, Tryz.ntmps27
          go_upto_region 1 with (fail)
          have HW' := HW.out
          unfold Sv.cells at HW'
          rw [← HW']
          clear HW'
          go_wp2_with fail
          go_ret
          exact ⟨rfl, Hbe.out⟩
      · skip
        have q0 : (s.tm != z.tm) = false := by simpa using e0
        have q1 : (s.vt != z.vt) = false := by simpa using e1
        have q2 : (s.b != z.b) = true := by simpa using e2
        rw [hno _ (fun e => (st_iff.1 e).2.2.1) e2]
        clear hno e0 e1 e2
        unfold Sv.val stA
        go_enter Tryz.func27, Tryz.ntmps27
        go_upto_region 1 with (fail)
        have HW' := HW.out
        unfold Sv.cells at HW'
        rw [← HW']
        clear HW'
        go_wp2_with fail
        go_ret
        exact ⟨rfl, Hbe.out⟩
    · skip
      have q0 : (s.tm != z.tm) = false := by simpa using e0
      have q1 : (s.vt != z.vt) = true := by simpa using e1
      rw [hno _ (fun e => (st_iff.1 e).2.1) e1]
      clear hno e0 e1
      unfold Sv.val stA
      go_enter Tryz.func27, Tryz.ntmps27
      go_upto_region 1 with (fail)
      have HW' := HW.out
      unfold Sv.cells at HW'
      rw [← HW']
      clear HW'
      go_wp2_with fail
      go_ret
      exact ⟨rfl, Hbe.out⟩
  · skip
    have q0 : (s.tm != z.tm) = true := by simpa using e0
    rw [hno _ (fun e => (st_iff.1 e).1) e0]
    clear hno e0
    unfold Sv.val stA
    go_enter Tryz.func27, Tryz.ntmps27
    go_upto_region 1 with (fail)
    have HW' := HW.out
    unfold Sv.cells at HW'
    rw [← HW']
    clear HW'
    go_wp2_with fail
    go_ret
    exact ⟨rfl, Hbe.out⟩
end Go.Proofs.YtlecglmiigdjlaaGreatDoor
namespace Go.Proofs.YtlecglmiigdjlaaGreatDoor
open Go.RowKit
set_option linter.unusedVariables false
set_option linter.unusedSimpArgs false
/-- A disk: what is safe, what was written last, the writes that wait, the steps till the power goes and one, whether it is gone. -/
structure Dk where
  safe : List UInt8
  now : List UInt8
  q : List (Nat × List UInt8)
  armed : Int
  off : Bool
def lain (l : List UInt8) (q : List (Nat × List UInt8)) : List UInt8 := q.foldl (fun s x => splice s x.1 x.2) l
def Dk.settled (D : Dk) : Dk := { D with safe := lain D.safe D.q, q := [] }
def Dk.stepped (D : Dk) : Dk := if D.armed = 1 then { D with off := true, armed := 0 } else { D with armed := max 0 (D.armed - 1) }
def Dk.put (D : Dk) (p : Nat) (b : List UInt8) : Dk := { D with now := splice D.now p b, q := D.q ++ [(p, b)] }
/-- The number of the error of a step, of a place. -/
def Dk.stepE (D : Dk) : Int := if D.armed = 1 then 13 else 0
def Dk.withE (D : Dk) (p n : Int) : Int := if p < 0 ∨ n < 0 ∨ (D.safe.length : Int) < p ∨ (D.safe.length : Int) - p < n then 1 else if D.off then 13 else 0
theorem splice_length {α : Type} {l cs : List α} {p : Nat} (h : p + cs.length ≤ l.length) : (splice l p cs).length = l.length := length_splice l p cs h
theorem bs_splice (l d : List UInt8) (p : Nat) : bs (splice l p d) = splice (bs l) p (bs d) := by
  simp [splice, bs, List.map_take, List.map_drop]
theorem splice_take {α : Type} (cur cs : List α) (n p : Nat) (h : p + cs.length ≤ n) (hn : n ≤ cur.length) : (splice cur p cs).take n = splice (cur.take n) p cs := by
  unfold splice
  have h1 : (cur.take p).length = p := by simp; omega
  rw [List.take_append, h1, List.take_append, List.take_take, List.take_take, List.drop_take]
  congr 1
  · congr 1; omega
  · congr 1
    · exact List.take_of_length_le (by omega)
    · congr 1; omega
/-- Between two worlds all blocks but those of U are as they were. -/
structure Kept (U : Nat → Prop) (W W' : World) : Prop where
  os : W'.os = W.os
  tape : W'.tape = W.tape
  output : W'.output = W.output
  size : W.heap.size ≤ W'.heap.size
  block : ∀ i, i < W.heap.size → ¬ U i → W'.heap[i]? = W.heap[i]?
section
variable {U V : Nat → Prop} {W W' W2 : World}
theorem Kept.refl (U : Nat → Prop) (W : World) : Kept U W W := ⟨rfl, rfl, rfl, Nat.le_refl _, fun _ _ _ => rfl⟩
theorem Kept.trans (h : Kept U W W') (h2 : Kept V W' W2) (hv : ∀ b, b < W.heap.size → V b → U b) : Kept U W W2 :=
  ⟨h2.os.trans h.os, h2.tape.trans h.tape, h2.output.trans h.output, Nat.le_trans h.size h2.size, fun i hi hu => (h2.block i (Nat.lt_of_lt_of_le hi h.size) (fun hv' => hu (hv i hi hv'))).trans (h.block i hi hu)⟩
theorem Kept.of_below {B : Nat} (h : Below B W W') (hB : ∀ b, b < W.heap.size → B ≤ b → U b) : Kept U W W' :=
  ⟨h.os, h.tape, h.output, h.size, fun i hi hu => h.block i (Nat.lt_of_not_le fun hb => hu (hB i hi hb))⟩
theorem Kept.of_new (h : Below W.heap.size W W') : Kept U W W' := Kept.of_below h fun b h1 h2 => by omega
theorem Kept.below {B : Nat} (h : Kept U W W') (hB : ∀ b, U b → B ≤ b) (hz : B ≤ W.heap.size) : Below B W W' :=
  ⟨h.os, h.tape, h.output, h.size, fun i hi => h.block i (Nat.lt_of_lt_of_le hi hz) fun hu => by have := hB i hu; omega⟩
theorem Kept.drew (h : Kept U W W') : Kept U W W'.drew := ⟨h.os, h.tape, h.output, h.size, h.block⟩
theorem Kept.alloc (h : Kept U W W') (o : Obj) : Kept U W (W'.alloc o) := h.trans (V := U) (Kept.of_new ((Below.refl _ _).alloc (Nat.le_refl _) o)) (fun _ _ h => h)
theorem Kept.set (h : Kept U W W') {p : Addr} (hp : U p.block) (v : Value) : Kept U W (W'.setCell p v) :=
  ⟨h.os, h.tape, h.output, by simpa [World.setCell] using h.size, fun i hi hu => (Below.heap_setCell W' p v i (fun e => hu (e ▸ hp))).trans (h.block i hi hu)⟩
theorem Kept.grown {row : Option Nat} (h : Kept U W W') (hg : W'.grownBy W2 row) (hr : ∀ b, row = some b → U b) : Kept U W W2 :=
  ⟨hg.os.trans h.os, hg.tape.trans h.tape, hg.output.trans h.output, Nat.le_trans h.size hg.size, fun i hi hu => (hg.block i (Nat.lt_of_lt_of_le hi h.size) (fun e => hu (hr i e.symm))).trans (h.block i hi hu)⟩
theorem Kept.bx {g : Nat} {cs : Array Value} (h : Kept U W W') (hb : Bx W g cs) (hg : ¬ U g) : Bx W' g cs := hb.keep (h.block g hb.lt hg)
theorem Kept.rd {ok : Nat → Prop} {size n : Nat} {A : Option Addr} {xs : List Value} (h : Kept U W W') (hr : Rd W ok size A n xs) (hok : ∀ b, ok b → ¬ U b) : Rd W' ok size A n xs :=
  hr.keep fun b hb hlt => h.block b hlt (hok b hb)
theorem Kept.own {base : Nat} {e : TypeId} {size n m c : Nat} {A : Option Addr} {xs : List Value} (h : Kept U W W') (ho : W.ownsRow base e size (.slice A n c) m xs) (hA : ∀ b, A.map (·.block) = some b → ¬ U b) : W'.ownsRow base e size (.slice A n c) m xs := by
  refine ⟨ho.1, ?_⟩
  rcases ho.2 with h1 | ⟨g, cap, cur, h1, h2, h3, h4⟩
  · exact .inl h1
  · refine .inr ⟨g, cap, cur, h1, h2, ?_, h4⟩
    have hgl : g < W.heap.size := (Array.getElem?_eq_some_iff.1 h3).1
    rw [h.block g hgl (hA g (by injection h1 with h1; rw [h1]; rfl)), h3]
end
/-- One block alone is another one. -/
structure Only (g : Nat) (W W' : World) : Prop where
  os : W'.os = W.os
  tape : W'.tape = W.tape
  output : W'.output = W.output
  size : W'.heap.size = W.heap.size
  block : ∀ i, i ≠ g → W'.heap[i]? = W.heap[i]?
theorem Only.kept {g : Nat} {W W' : World} {U : Nat → Prop} (h : Only g W W') (hg : U g) : Kept U W W' := ⟨h.os, h.tape, h.output, Nat.le_of_eq h.size.symm, fun i hi hu => h.block i (fun e => hu (e ▸ hg))⟩
theorem Only.refl (g : Nat) (W : World) : Only g W W := ⟨rfl, rfl, rfl, rfl, fun _ _ => rfl⟩
theorem Only.setRow (w : World) (g : Nat) (cs : Array Value) : Only g w (w.setRow g cs) := ⟨rfl, rfl, rfl, by simp [World.setRow], fun k hk => setRow_other w g k cs hk⟩
theorem Only.bx {g k : Nat} {W W' : World} {cs : Array Value} (h : Only g W W') (hb : Bx W k cs) (hk : k ≠ g) : Bx W' k cs := hb.keep (h.block k hk)
/-- A row into which cells are laid. -/
theorem own_splice {W W' : World} {e : TypeId} {s n c p : Nat} {xs cs : List Value} {cur : Array Value} (ho : W.ownsRow 0 e 1 (.slice (some ⟨s, 0, none⟩) n c) n xs) (hcur : W.heap[s]? = some (.cells cur e (0, 0))) (h2 : W'.heap[s]? = some (.cells (splice cur.toList p cs).toArray e (0, 0))) (hp : p + cs.length ≤ n) :
    W'.ownsRow 0 e 1 (.slice (some ⟨s, 0, none⟩) n c) n (splice xs p cs) := by
  obtain ⟨h1, h | ⟨g, cap, cur', e1, -, e3, e4, e5, e6, e7⟩⟩ := ho
  · cases h.1
  · injection e1 with e1 _ e1'
    injection e1 with e1
    injection e1 with e1
    subst e1 e1'
    rw [hcur] at e3
    injection e3 with e3
    injection e3 with e3
    subst e3
    have hl : cur.toList.length = c * 1 := by simpa using e6
    refine ⟨by rw [splice_length (by omega)]; exact h1, .inr ⟨s, c, _, rfl, Nat.zero_le _, h2, e4, e5, ?_, ?_⟩⟩
    · have := splice_length (l := cur.toList) (cs := cs) (p := p) (by omega)
      simpa using this.trans hl
    · show List.take (n * 1) (splice cur.toList p cs) = _
      rw [splice_take _ _ _ _ (by omega) (by omega), e7]
theorem own_cur {W : World} {e : TypeId} {s n c size : Nat} {xs : List Value} (ho : W.ownsRow 0 e size (.slice (some ⟨s, 0, none⟩) n c) n xs) : ∃ cur : Array Value, W.heap[s]? = some (.cells cur e (0, 0)) ∧ cur.size = c * size ∧ n ≤ c ∧ c ≤ maxLen := by
  obtain ⟨h1, h | ⟨g, cap, cur', e1, -, e3, e4, e5, e6, e7⟩⟩ := ho
  · cases h.1
  · injection e1 with e1 _ e1'
    injection e1 with e1
    injection e1 with e1
    subst e1 e1'
    exact ⟨cur', e3, e6, e4, e5⟩
/-- 'copy(s[p:], b)', s a row of the disk's. -/
theorem wpList_copy_into {P : Program} {w : World} {ops : Array Oper} {rest : List Oper} {o : Oper} {a : Act} {Q : Exit → Act → World → Prop} (hgd : o.guard = none) (d s : Operand) (dT sT : TypeId)
    (ho : o.op = .call { callee := .builtin .copy, args := #[d, s], argTypes := #[dT, sT] }) (elem : TypeId) (hu : P.underlying dT = some (.slice elem)) (hsz : (P.info? elem).map (·.size) = some 1)
    (dp sp : Option Addr) (dLen dCap sLen sCap : Nat) (hd : a.eval d = .slice dp dLen dCap) (hs : a.eval s = .slice sp sLen sCap)
    (g p n c : Nat) (xs cs : List Value) (hown : w.ownsRow 0 elem 1 (.slice (some ⟨g, 0, none⟩) n c) n xs) {ok : Nat → Prop} (hr : Rd w ok 1 sp sLen cs) (hdp : 0 < cs.length → dp = some ⟨g, p, none⟩) (hle : sLen ≤ dLen) (hfit : p + cs.length ≤ n) (h1 : ∀ v ∈ cs, v.oneCell' = true)
    (h : ∀ w', w'.ownsRow 0 elem 1 (.slice (some ⟨g, 0, none⟩) n c) n (splice xs p cs) → Only g w w' → wpList P ops Q rest (a.put o.dst (goInt cs.length)) w') :
    wpList P ops Q (o :: rest) a w := by
  have hcl : cs.length = sLen := by simpa using hr.1
  by_cases h0 : cs.length = 0
  · obtain rfl : cs = [] := List.eq_nil_of_length_eq_zero h0
    refine wpList_copy_nothing hgd d s dT sT ho elem hu hsz dp sp dLen dCap sLen sCap hd hs (by simp at hcl; simp [← hcl]) ?_
    exact h w (by simpa [splice] using hown) (Only.refl _ _)
  · obtain rfl := hdp (by omega)
    obtain ⟨cur, hg, hcz, hnc, hcm⟩ := own_cur hown
    obtain ⟨ad, rfl, hb, hcell⟩ := hr.2 (by omega)
    refine wpList_copy_own hgd d s dT sT ho elem hu hsz g p dLen dCap ad sLen sCap hd hs cur elem hg cs (by rw [hcl]; simp [Nat.min_def, hle]) hcell (by omega) h1 ?_
    exact h _ (own_splice hown hg (setRow_heap w g _ _ elem _ hg) hfit) (Only.setRow _ _ _)
end Go.Proofs.YtlecglmiigdjlaaGreatDoor
namespace Go.Proofs.YtlecglmiigdjlaaGreatDoor
open Go.RowKit
set_option maxRecDepth 100000
set_option linter.unusedVariables false
set_option linter.unusedSimpArgs false
theorem append_str_at {P : Program} {w w' : World} {base : Nat} {t u ty e : TypeId} (ht : P.underlying t = some (.slice e)) (hu : P.underlying u = some .string) (he : Elem P e (.int .u8 0) 1 1)
    {v v' : Value} {n : Nat} {xs : List Value} (hown : w.ownsRow base e 1 v n xs) {s : ByteArray} (hb : n + s.size ≤ 35184372088832) (h : (Builtin.append_ #[t, u] ty #[v, .string s]).run P w = .ok v' w') : v'.ownBlock = v.ownBlock ∨ v'.ownBlock = some w.heap.size := by
  obtain ⟨i, hi, hz, hsize, hby⟩ := info_parts he
  have hxl : xs.length = n := by simpa using hown.1
  rcases hown.2 with ⟨rfl, rfl⟩ | ⟨g, cap, cur, rfl, hbg, hg, hnc, hcm, hcs, htake⟩
  · by_cases hm : s.size = 0
    · have hf := Lib.run_firstCells_string (P := P) w 1 s
      rw [hm] at hf
      simp [Builtin.append_, run_underlying ht, run_underlying hu, sizeOf, typeInfo, hi, hsize, Builtin.lenOf, hm, hf] at h
      exact .inl (by rw [h.1])
    · have hr := run_append_nil_string (P := P) w t u ty e i (.int .u8 0) ht hu hi hz s (by omega) (by omega) (by rw [hby]; omega)
      rw [hr] at h
      injection h with h1 h2
      exact .inr (by rw [← h1]; rfl)
  · by_cases hroom : n + s.size ≤ cap
    · have hr := Lib.run_append_room_string (P := P) w t u ty e i ht hu hi hsize g n cap cur hg s hroom (by omega)
      rw [hr] at h
      injection h with h1 h2
      exact .inl (by rw [← h1]; rfl)
    · have holds : ∀ j u, xs[j]? = some u → w.cell? ((⟨g, 0, none⟩ : Addr).add j) = some u := hown.cells (g := g) rfl
      have hr := Lib.run_append_grow_string (P := P) w t u ty e i (.int .u8 0) ht hu hi hz ⟨g, 0, none⟩ n cap xs (by rw [hsize]; simpa using hxl) holds s (by omega) (by omega) (by rw [hby]; exact growslice_fits (by omega) (by omega))
      rw [hr] at h
      injection h with h1 h2
      exact .inr (by rw [← h1]; rfl)
theorem wpList_append_strU {P : Program} (w : World) {ops : Array Oper} {rest : List Oper} {o : Oper} {a : Act} {Q : Exit → Act → World → Prop} {sl x : Operand} {t u e : TypeId}
    (ht : P.underlying t = some (.slice e)) (hu : P.underlying u = some .string) (he : Elem P e (.int .u8 0) 1 1)
    (hgd : o.guard = none) (ho : o.op = .call { callee := .builtin .append, args := #[sl, x], argTypes := #[t, u] })
    {base : Nat} {A0 : Option Addr} {n c0 : Nat} {l : List UInt8} (hs : a.eval sl = .slice A0 n c0) (hown : w.ownsRow base e 1 (.slice A0 n c0) n (bs l)) {s : ByteArray} (hx : a.eval x = .string s)
    (hbytes : n + s.size ≤ 35184372088832) (hbase : base ≤ w.heap.size) {k : Nat} {m : List UInt8} (hk : n + s.size = k) (hm : l ++ s.data.toList = m)
    (h : ∀ A' c' w', w'.ownsRow base e 1 (.slice A' k c') k (bs m) → w.grownBy w' (A0.map (·.block)) → (A'.map (·.block) = A0.map (·.block) ∨ A'.map (·.block) = some w.heap.size) → wpList P ops Q rest (a.put o.dst (.slice A' k c')) w') : wpList P ops Q (o :: rest) a w := by
  obtain ⟨i, hi, hz, hsize, hby⟩ := info_parts he
  refine wpList_plain hgd fun K hK => ?_
  obtain ⟨v', w', hr, h1, h2, _⟩ := Lib.run_append_own_string (P := P) w base t u o.type e i ht hu hi hz hsize hby _ n (bs l) hown s (by unfold maxLen; omega) (by omega) hbase
  have h4 := append_str_at ht hu he hown hbytes hr
  obtain ⟨A', c', rfl, _⟩ := own_form h1
  subst hk hm
  have e1 : ∀ (B : Option Addr) (p q : Nat), (Value.slice B p q).ownBlock = B.map (·.block) := fun B p q => by cases B <;> rfl
  rw [e1] at h2 h4
  rw [e1] at h4
  have e2 : bs (l ++ s.data.toList) = bs l ++ Lib.strCells s := by rw [bs_append]; rfl
  unfold Oper.wp execOp
  simp only [ho, resolve, invoke, builtin, Sem.run_bind, Sem.run_pure, Result.andThen_ok, List.map_toArray, List.map_cons, List.map_nil, hs, hx, hr]
  refine hK _ _ (h A' c' w' ?_ h2 h4)
  rw [e2]
  exact h1
/-- Block p is a writer that has laid the bytes l; it and its row are of U. -/
structure WrU (W : World) (U : Nat → Prop) (p : Nat) (l : List UInt8) : Prop where
  ex : ∃ A n c, W.heap[p]? = some (.cells #[.slice A n c] 220 (0, 0)) ∧ W.ownsRow 0 5 1 (.slice A n c) n (bs l) ∧ ∀ b, A.map (·.block) = some b → U b
  up : U p
  lt : ∀ b, U b → b < W.heap.size
def WuPost (w : World) (U : Nat → Prop) (p : Nat) (l : List UInt8) (e : Ending) (w' : World) : Prop := e = .returned (.pointer (some ⟨p, 0, none⟩)) ∧ (∃ U', WrU w' U' p l ∧ ∀ b, U' b → U b ∨ w.heap.size ≤ b) ∧ Kept U w w'
section
variable {W W' w w' : World} {U U' : Nat → Prop} {p : Nat} {l : List UInt8}
theorem WrU.keep (h : WrU W U p l) (hk : ∀ b, U b → W'.heap[b]? = W.heap[b]?) (hz : W.heap.size ≤ W'.heap.size) : WrU W' U p l := by
  obtain ⟨A, n, c, h1, h2, h3⟩ := h.ex
  refine ⟨⟨A, n, c, (hk p h.up).trans h1, ?_, h3⟩, h.up, fun b hb => Nat.lt_of_lt_of_le (h.lt b hb) hz⟩
  refine ⟨h2.1, ?_⟩
  rcases h2.2 with h5 | ⟨g, cap, cur, h5, h6, h7, h8⟩
  · exact .inl h5
  · exact .inr ⟨g, cap, cur, h5, h6, (hk g (h3 g (by injection h5 with h5; rw [h5]; rfl))).trans h7, h8⟩
theorem WrU.below (h : WrU W U p l) (hb : Below W.heap.size W W') : WrU W' U p l := h.keep (fun b hu => hb.block b (h.lt b hu)) hb.size
theorem WrU.store {A A' : Option Addr} {n c k c' : Nat} (h1 : W.heap[p]? = some (.cells #[.slice A n c] 220 (0, 0))) (ho : W'.ownsRow 0 5 1 (.slice A' k c') k (bs l)) (hg : W'.heap[p]? = W.heap[p]?)
    (hU : ∀ b, A'.map (·.block) = some b → U b) (hp : U p) (hlt : ∀ b, U b → b < W'.heap.size) : WrU (W'.setCell ⟨p, 0, none⟩ (.slice A' k c')) U p l := by
  have hp1 := hg.trans h1
  have hne := own_ne ho hp1 (by decide)
  refine ⟨⟨A', k, c', by simp [World.setCell, Array.getElem?_modify, hp1], ?_, hU⟩, hp, fun b hb => by simpa [World.setCell] using hlt b hb⟩
  refine ho.kept (row := some p) ⟨rfl, rfl, rfl, by simp [World.setCell], fun i _ hi => Below.heap_setCell _ _ _ i (fun e => hi (by rw [e]))⟩ ?_
  cases A' with
  | none => exact .inl rfl
  | some a => exact .inr hne
theorem Kept.less (h : Kept (fun b => U b ∨ W.heap.size ≤ b) W W') : Kept U W W' := ⟨h.os, h.tape, h.output, h.size, fun i hi hu => h.block i hi fun h2 => h2.elim hu fun h3 => by omega⟩
theorem Kept.more (h : Kept U W W') : Kept (fun b => U b ∨ w.heap.size ≤ b) W W' := ⟨h.os, h.tape, h.output, h.size, fun i hi hu => h.block i hi fun h2 => hu (.inl h2)⟩
/-- One act behind what lays new blocks only. -/
theorem WuPost.behind {e : Ending} (hb : Below w.heap.size w W) (h : WuPost W U p l e w') : WuPost w U p l e w' := by
  obtain ⟨h1, ⟨U', h2, h3⟩, h4⟩ := h
  refine ⟨h1, ⟨U', h2, fun b hb' => (h3 b hb').elim .inl fun h5 => .inr (Nat.le_trans hb.size h5)⟩, ?_⟩
  exact (Kept.of_new hb).trans h4 fun b _ h => h
/-- An act that is told as laid within what is U or new. -/
theorem WuPost.of {e : Ending} (he : e = .returned (.pointer (some ⟨p, 0, none⟩))) (h : WrU w' (fun b => (U b ∨ w.heap.size ≤ b) ∧ b < w'.heap.size) p l) (hk : Kept (fun b => U b ∨ w.heap.size ≤ b) w w') : WuPost w U p l e w' :=
  ⟨he, ⟨_, h, fun b hb => hb.1⟩, hk.less⟩
end
set_option maxHeartbeats 1600000 in
theorem lay_u (U : Nat → Prop) (p : Nat) (l : List UInt8) (c d : UInt8) (s : ByteArray) (w : World) (h : WrU w U p l) (hn : l.length + s.size ≤ 1099511627776) :
    Calls Tryz.prog 119 #[.pointer (some ⟨p, 0, none⟩), .int .u8 (c.toNat : Int), .string s, .int .u8 (d.toNat : Int)] w (WuPost w U p (l ++ [c] ++ s.data.toList ++ [d])) := by
  obtain ⟨M, hM⟩ : ∃ M, l ++ [c] ++ s.data.toList ++ [d] = M := ⟨_, rfl⟩
  rw [hM]
  have HM := Lib.hid hM
  clear hM
  obtain ⟨A, n, cp, h1, h3, hAU⟩ := h.ex
  have hup := h.up
  have hpl := (Array.getElem?_eq_some_iff.1 h1).1
  have hln : l.length = n := by have := h3.1; rw [bs_length] at this; omega
  have hne := own_ne h3 h1 (by decide)
  have c0 : w.cell? ⟨p, 0, none⟩ = some (.slice A n cp) := cell_of_row w p 0 _ _ (0, 0) h1
  have f0 : w.frozen? ⟨p, 0, none⟩ = false := by simp [World.frozen?, h1]
  have H1 := Lib.hid h1
  have H3 := Lib.hid h3
  have Hne := Lib.hid hne
  have HAU := Lib.hid (And.intro hAU (And.intro hup hpl))
  have Hln := Lib.hid hln
  have hn' : n + s.size ≤ 1099511627776 := by omega
  clear h h1 h3 hne hln hn hAU hup
  go_enter Tryz.func119, Tryz.ntmps119
  go_wp2_with (first
    | (at_builtin; refine wpList_append_any (s := .tmp 15) (news := bs [c]) _ Tryz.underlying33 u8_elem rfl (by omega) rfl rfl rfl (own_below H3.out ((Below.refl _ _).alloc (Nat.le_refl _) _)) rfl (show Rd (w.alloc (.cells #[.int .u8 (c.toNat : Int)] 5)) T 1 (some ⟨w.heap.size, 0, none⟩) 1 (bs [c]) from (Rd.lit rfl).any) (bs_one _) (by omega) (Nat.zero_le _) rfl (bs_append l [c]).symm ?_; intro A1 c1 w1 hown1 hg1 hat1; have K1 := Lib.hid (keepP H1.out hg1 Hne.out); have At1 := Lib.hid hat1; clear hat1)
    | (at_builtin; refine wpList_append_strU (sl := .tmp 18) _ Tryz.underlying33 Tryz.underlying9 u8_elem rfl rfl rfl hown1 rfl (by omega) (Nat.zero_le _) rfl rfl ?_; intro A2 c2 w2 hown2 hg2 hat2; have K2 := Lib.hid (keepQ K1.out hg2 (own_ne hown1 K1.out (by decide))); have At2 := Lib.hid hat2; clear hat2)
    | (at_builtin; refine wpList_append_any (s := .tmp 20) (news := bs [d]) _ Tryz.underlying33 u8_elem rfl (by omega) rfl rfl rfl (own_below hown2 ((Below.refl _ _).alloc (Nat.le_refl _) _)) rfl (show Rd (w2.alloc (.cells #[.int .u8 (d.toNat : Int)] 5)) T 1 (some ⟨w2.heap.size, 0, none⟩) 1 (bs [d]) from (Rd.lit rfl).any) (bs_one _) (by omega) (Nat.zero_le _) rfl (bs_append _ [d]).symm ?_; intro A3 c3 w3 hown3 hg3 hat3; have K3 := Lib.hid (keepP K2.out hg3 (own_ne hown2 K2.out (by decide))); obtain ⟨q0, q1⟩ := box_cell K3.out; have At3 := Lib.hid hat3; clear hat3))
  go_ret
  have z1 : w.heap.size + 1 ≤ w1.heap.size := by have := hg1.size; simpa using this
  have z2 := hg2.size
  have z3 : w2.heap.size + 1 ≤ w3.heap.size := by have := hg3.size; simpa using this
  have u1 : ∀ b, A1.map (·.block) = some b → U b ∨ w.heap.size ≤ b := fun b hb => by
    rcases At1.out with h | h <;> rw [h] at hb
    · exact .inl (HAU.out.1 b hb)
    · injection hb with hb; right; simp at hb; omega
  have u2 : ∀ b, A2.map (·.block) = some b → U b ∨ w.heap.size ≤ b := fun b hb => by
    rcases At2.out with h | h <;> rw [h] at hb
    · exact u1 b hb
    · injection hb with hb; right; omega
  have u3 : ∀ b, A3.map (·.block) = some b → U b ∨ w.heap.size ≤ b := fun b hb => by
    rcases At3.out with h | h <;> rw [h] at hb
    · exact u2 b hb
    · injection hb with hb; right; simp at hb; omega
  have hpw := HAU.out.2.2
  rw [HM.out] at hown3
  refine WuPost.of rfl (WrU.store H1.out hown3 (K3.out.trans H1.out.symm) (fun b hb => ⟨u3 b hb, ?_⟩) ⟨.inl HAU.out.2.1, ?_⟩ fun b hb => ?_) ?_
  · have := (own_lt hown3 b hb).2
    simpa [World.setCell] using this
  · simp [World.setCell]; omega
  · simpa [World.setCell] using hb.2
  · have b1 := ((Kept.refl (fun b => U b ∨ w.heap.size ≤ b) w).alloc (.cells #[.int .u8 (c.toNat : Int)] 5)).grown hg1 (fun q hq => .inl (HAU.out.1 q hq))
    have b2 := b1.grown hg2 u1
    have b3 := (b2.alloc (.cells #[.int .u8 (d.toNat : Int)] 5)).grown hg3 u2
    exact b3.set (p := ⟨p, 0, none⟩) (.inl HAU.out.2.1) _
theorem new_u (w : World) : Calls Tryz.prog 96 #[] w (fun e w' => e = .returned (.pointer (some ⟨w.heap.size, 0, none⟩)) ∧ WrU w' (fun b => b = w.heap.size) w.heap.size [] ∧ Below w.heap.size w w') := by
  go_enter Tryz.func96, Tryz.ntmps96
  go_wp2_with fail
  go_ret
  exact ⟨rfl, ⟨⟨none, 0, 0, heap_alloc_new _ _, own_nil _ _ _ _ _ rfl, by simp⟩, rfl, by rintro b rfl; simp⟩, (Below.refl _ _).alloc (Nat.le_refl _) _⟩
set_option maxHeartbeats 800000 in
theorem uint_u (U : Nat → Prop) (p : Nat) (l : List UInt8) (u : Nat) (hu : u < 18446744073709551616) (w : World) (h : WrU w U p l) (hn : l.length ≤ 549755813888) (htab : TabW w) :
    Calls Tryz.prog 97 #[.pointer (some ⟨p, 0, none⟩), .int .u64 u] w (WuPost w U p (l ++ uintL u)) := by
  have hf := fmt_any u hu w htab
  have hd := dig_size u hu
  have hl : ∀ w1, Below w.heap.size w w1 → Calls Tryz.prog 119 #[.pointer (some ⟨p, 0, none⟩), .int .u8 110, .string (dig u), .int .u8 59] w1 (WuPost w1 U p (l ++ uintL u)) := fun w1 hb => by
    have := lay_u U p l 110 59 (dig u) w1 (h.below hb) (by omega)
    have e : l ++ [110] ++ (dig u).data.toList ++ [59] = l ++ uintL u := by simp [uintL, dig]
    rw [e] at this
    exact this
  have Hf := Lib.hid hf
  have Hl := Lib.hid hl
  clear hf hl h htab
  go_enter Tryz.func97, Tryz.ntmps97
  go_wp2_with fail
  refine Hf.out.mono ?_
  rintro e w1 ⟨rfl, hb⟩
  go_wp2_with fail
  refine (Hl.out _ hb).mono ?_
  rintro e w2 ⟨rfl, h2, hb2⟩
  go_wp2_with fail
  go_ret
  exact WuPost.behind hb ⟨rfl, h2, hb2⟩
set_option maxHeartbeats 1600000 in
theorem bytes_u (U : Nat → Prop) (p : Nat) (l d : List UInt8) (A : Option Addr) (n c : Nat) (w : World) (h : WrU w U p l) (hn : l.length ≤ 274877906944) (htab : TabW w) (hr : Rd w (fun b => ¬ U b) 1 A n (bs d)) (hnn : n ≤ 274877906944) :
    Calls Tryz.prog 98 #[.pointer (some ⟨p, 0, none⟩), .slice A n c] w (WuPost w U p (l ++ bytesL d)) := by
  have hdn : d.length = n := hr.blen
  have hd := dig_size n (by omega)
  have hf := itoa_any n (by omega) w htab
  have hl : ∀ w1, Below w.heap.size w w1 → Calls Tryz.prog 119 #[.pointer (some ⟨p, 0, none⟩), .int .u8 98, .string (dig n), .int .u8 58] w1 (WuPost w1 U p (l ++ 98 :: (Lib.decDigits n ++ [58]))) := fun w1 hb => by
    have := lay_u U p l 98 58 (dig n) w1 (h.below hb) (by omega)
    have e : l ++ [98] ++ (dig n).data.toList ++ [58] = l ++ 98 :: (Lib.decDigits n ++ [58]) := by simp [dig]
    rw [e] at this
    exact this
  have hlen : (l ++ 98 :: (Lib.decDigits n ++ [58])).length ≤ 274877906944 + 22 := by
    have : (Lib.decDigits n).length ≤ 20 := hd
    simp
    omega
  have hfin : l ++ 98 :: (Lib.decDigits n ++ [58]) ++ d = l ++ bytesL d := by simp [bytesL, hdn]
  generalize l ++ 98 :: (Lib.decDigits n ++ [58]) = m at hl hlen hfin
  have hr' := hr.lt (by omega)
  have Hf := Lib.hid hf
  have Hl := Lib.hid hl
  have Hr := Lib.hid hr'
  have Hfin := Lib.hid hfin
  clear hf hl h htab hr hr' hfin hdn
  go_enter Tryz.func98, Tryz.ntmps98
  go_wp2_with fail
  refine Hf.out.mono ?_
  rintro e w1 ⟨rfl, hb⟩
  go_wp2_with fail
  refine (Hl.out _ hb).mono ?_
  rintro e w2 ⟨rfl, ⟨U2, h2, hu2⟩, hk2⟩
  obtain ⟨A2, n2, c2, k1, k3, kU⟩ := h2.ex
  obtain ⟨q0, q1⟩ := box_cell k1
  have hz1 := hb.size
  have r2 : Rd w2 (fun b => ¬ U b ∧ b < w.heap.size) 1 A n (bs d) := hk2.rd (Hr.out.below hb) fun b hb' => hb'.1
  have hne := own_ne k3 k1 (by decide)
  have hm2 : m.length = n2 := by have := k3.1; rw [bs_length] at this; omega
  have K1 := Lib.hid k1
  have K3 := Lib.hid k3
  have R2 := Lib.hid r2
  have Hne := Lib.hid hne
  have KK := Lib.hid (And.intro hk2 (And.intro kU (And.intro hu2 (And.intro h2.up h2.lt))))
  have hn2 : n2 ≤ 274877906944 + 22 := by omega
  clear h2 k1 k3 r2 hne hm2 hlen hk2 kU hu2
  go_wp2_with (at_builtin; refine wpList_append_any (s := .tmp 15) (news := bs d) _ Tryz.underlying33 u8_elem rfl (by omega) rfl rfl rfl K3.out rfl R2.out (bs_one _) (by omega) (Nat.zero_le _) rfl (bs_append m d).symm ?_; intro A3 c3 w3 hown3 hg3 hat3; have K4 := Lib.hid (keepQ K1.out hg3 Hne.out); obtain ⟨q2, q3⟩ := box_cell K4.out; have At3 := Lib.hid hat3; clear hat3)
  go_ret
  rw [Hfin.out] at hown3
  obtain ⟨hk2, kU, hu2, h2u, h2l⟩ := KK.out
  have hz2 := hk2.size
  have hz3 := hg3.size
  have hpl := h2l p h2u
  have u3 : ∀ b, A3.map (·.block) = some b → U b ∨ w.heap.size ≤ b := fun b hb' => by
    rcases At3.out with h | h <;> rw [h] at hb'
    · exact (hu2 b (kU b hb')).elim .inl fun h5 => .inr (by omega)
    · injection hb' with hb'; right; omega
  refine WuPost.of rfl (WrU.store K1.out hown3 (K4.out.trans K1.out.symm) (fun b hb' => ⟨u3 b hb', ?_⟩) ⟨(hu2 p h2u).elim .inl fun h5 => .inr (by omega), ?_⟩ fun b hb' => ?_) ?_
  · have := (own_lt hown3 b hb').2
    simpa [World.setCell] using this
  · simp [World.setCell]; omega
  · simpa [World.setCell] using hb'.2
  · have b1 : Kept (fun b => U b ∨ w.heap.size ≤ b) w w2 := (Kept.of_new hb).trans hk2 fun b _ h => .inl h
    have b2 := b1.grown hg3 (fun q hq => (hu2 q (kU q hq)).elim .inl fun h5 => .inr (by omega))
    exact b2.set (p := ⟨p, 0, none⟩) ((hu2 p h2u).elim .inl fun h5 => .inr (by show w.heap.size ≤ p; omega)) _
theorem WrU.wr {W : World} {U : Nat → Prop} {p : Nat} {l : List UInt8} (h : WrU W U p l) : Wr W 0 p l := by
  obtain ⟨A, n, c, h1, h2, _⟩ := h.ex
  exact ⟨A, n, c, h1, Nat.zero_le _, h2⟩
end Go.Proofs.YtlecglmiigdjlaaGreatDoor
namespace Go.Proofs.YtlecglmiigdjlaaGreatDoor
open Go.RowKit
set_option linter.unusedVariables false
set_option linter.unusedSimpArgs false
def EncI (W0 W : World) (p : Nat) (L : List UInt8) : Prop := (∃ U, WrU W U p L ∧ ∀ b, U b → W0.heap.size ≤ b) ∧ Below W0.heap.size W0 W
def EncP (W0 : World) (p : Nat) (L : List UInt8) (e : Ending) (w' : World) : Prop := e = .returned (.pointer (some ⟨p, 0, none⟩)) ∧ EncI W0 w' p L
section
variable {W0 W W' : World} {p : Nat} {L : List UInt8}
theorem EncI.below (h : EncI W0 W p L) (hb : Below W.heap.size W W') : EncI W0 W' p L := by
  obtain ⟨⟨U, h1, h2⟩, h3⟩ := h
  exact ⟨⟨U, h1.below hb, h2⟩, h3.trans (hb.mono h3.size)⟩
theorem EncI.be (h : EncI W0 W p L) : Below W0.heap.size W0 W := h.2
theorem EncI.next {U : Nat → Prop} {L' : List UInt8} {e : Ending} (hu : ∀ b, U b → W0.heap.size ≤ b) (hb : Below W0.heap.size W0 W) (h : WuPost W U p L' e W') : EncP W0 p L' e W' := by
  obtain ⟨h1, ⟨U', h2, h3⟩, h4⟩ := h
  exact ⟨h1, ⟨U', h2, fun b h5 => (h3 b h5).elim (hu b) fun h6 => Nat.le_trans hb.size h6⟩, hb.trans (h4.below hu hb.size)⟩
theorem new_i (W0 : World) : Calls Tryz.prog 96 #[] W0 (EncP W0 W0.heap.size []) := (new_u W0).mono (by
  rintro e w' ⟨rfl, h1, h2⟩
  exact ⟨rfl, ⟨_, h1, fun b hb => by rw [hb]; exact Nat.le_refl _⟩, h2⟩)
theorem uint_i (u : Nat) (hu : u < 18446744073709551616) (h : EncI W0 W p L) (hn : L.length ≤ 200000000000) (htab : TabW W0) :
    Calls Tryz.prog 97 #[.pointer (some ⟨p, 0, none⟩), .int .u64 u] W (EncP W0 p (L ++ uintL u)) := by
  obtain ⟨⟨U, h1, h2⟩, h3⟩ := h
  exact (uint_u U p L u hu W h1 (by omega) (htab.below h3 (Nat.le_refl _))).mono fun e w' h => EncI.next h2 h3 h
/-- The bytes are older than the writer. -/
theorem bytes_o (A : Option Addr) (n c : Nat) (d : List UInt8) (h : EncI W0 W p L) (hn : L.length ≤ 200000000000) (htab : TabW W0) (hr : Rd W (· < W0.heap.size) 1 A n (bs d)) (hnn : n ≤ 200000000000) :
    Calls Tryz.prog 98 #[.pointer (some ⟨p, 0, none⟩), .slice A n c] W (EncP W0 p (L ++ bytesL d)) := by
  obtain ⟨⟨U, h1, h2⟩, h3⟩ := h
  exact (bytes_u U p L d A n c W h1 (by omega) (htab.below h3 (Nat.le_refl _)) (hr.mono fun b hb hu => by have := h2 b hu; omega) (by omega)).mono fun e w' h => EncI.next h2 h3 h
/-- The bytes came when the writer was as it is. -/
theorem bytes_i (A : Option Addr) (n c : Nat) (d : List UInt8) (h : EncI W0 W p L) (hb : Below W.heap.size W W') (hn : L.length ≤ 200000000000) (htab : TabW W0) (hr : Rd W' (W.heap.size ≤ ·) 1 A n (bs d)) (hnn : n ≤ 200000000000) :
    Calls Tryz.prog 98 #[.pointer (some ⟨p, 0, none⟩), .slice A n c] W' (EncP W0 p (L ++ bytesL d)) := by
  obtain ⟨⟨U, h1, h2⟩, h3⟩ := h
  have h4 := h3.trans (hb.mono h3.size)
  exact (bytes_u U p L d A n c W' (h1.below hb) (by omega) (htab.below h4 (Nat.le_refl _)) (hr.mono fun b hb hu => by have := h1.lt b hu; omega) (by omega)).mono fun e w' h => EncI.next h2 h4 h
theorem done_i (h : EncI W0 W p L) (hn : L.length ≤ 200000000000) :
    Calls Tryz.prog 101 #[.pointer (some ⟨p, 0, none⟩)] W (LayR W0 L) := by
  obtain ⟨⟨U, h1, h2⟩, h3⟩ := h
  exact (done_any 0 p L W h1.wr (by omega)).mono (by
    rintro e w' ⟨A, c, rfl, h4, h5⟩
    exact LayR.up h3 ⟨A, _, c, rfl, h4, h5⟩)
end
end Go.Proofs.YtlecglmiigdjlaaGreatDoor
namespace Go.Proofs.YtlecglmiigdjlaaGreatDoor
open Go.RowKit
set_option maxRecDepth 100000
set_option linter.unusedVariables false
set_option linter.unusedSimpArgs false
def sumD (L : List Er) : Nat := (L.map fun x => x.n / 64).sum
def longB (L : List Er) : Bool := decide (200 < L.length) || decide (400 < sumD (L.take 300))
theorem sumD_step {L : List Er} {j : Nat} {x : Er} (h : L[j]? = some x) : sumD (L.take (j + 1)) = sumD (L.take j) + x.n / 64 := by
  unfold sumD
  rw [List.take_add_one, h, List.map_append, List.sum_append]
  simp
theorem sumD_le {L : List Er} {K : Nat} (h : ∀ x ∈ L, x.n ≤ K) : sumD L ≤ L.length * K := by
  unfold sumD
  induction L with
  | nil => simp
  | cons x L ih =>
    have h1 := ih fun y hy => h y (by simp [hy])
    have h2 := h x (by simp)
    simp only [List.map_cons, List.sum_cons, List.length_cons, Nat.succ_mul]
    have : x.n / 64 ≤ x.n := Nat.div_le_self _ _
    omega
theorem sumD_mem {L : List Er} {x : Er} (h : x ∈ L) : x.n / 64 ≤ sumD L := by
  unfold sumD
  induction L with
  | nil => cases h
  | cons y L ih =>
    simp only [List.map_cons, List.sum_cons]
    rcases List.mem_cons.1 h with rfl | h
    · omega
    · have := ih h
      omega
theorem longB_no {L : List Er} (h : longB L = false) : L.length ≤ 200 ∧ ∀ x ∈ L, x.n ≤ 25663 := by
  unfold longB at h
  simp only [Bool.or_eq_false_iff, decide_eq_false_iff_not] at h
  refine ⟨by omega, fun x hx => ?_⟩
  rw [List.take_of_length_le (by omega)] at h
  have := sumD_mem hx
  omega
set_option maxHeartbeats 1600000 in
theorem longs_any (A : Option Addr) (n c : Nat) (L : List Er) (w : World) {ok : Nat → Prop} (hr : Rd w ok 4 A n (flat ecell L)) (hs : ∀ x ∈ L, x.n ≤ 140737488351232) (hn : n ≤ 9223372036854775807) :
    Calls Tryz.prog 37 #[.slice A n c] w (BoolPost w (longB L)) := by
  have Hll := Lib.hid (hr.flen ecell_len (by omega))
  have Hs := Lib.hid hs
  have Hr := Lib.hid hr
  clear hr hs
  go_enter Tryz.func37, Tryz.ntmps37
  go_wp2_with fail
  go_loopg [3, 4] 300 (fun m s3 s4 wr => ∃ (j s : Nat), m = 300 - j ∧ j ≤ 300 ∧ j ≤ n ∧ s4 = .int .i64 j ∧ s3 = .int .i64 s ∧ s = sumD (L.take j) ∧ Below w.heap.size w wr)
  case atStart => exact ⟨0, 0, by omega, by omega, by omega, rfl, rfl, rfl, Below.refl _ _⟩
  case round =>
    obtain ⟨j, s, hm, hj3, hj, rfl, rfl, hsj, hb⟩ := hrel
    have Hm := Lib.hid hm
    have Hsj := Lib.hid hsj
    have Hb := Lib.hid hb
    clear hm hsj hb
    by_cases hlt : j < n ∧ j < 300
    · obtain ⟨hlt, h3⟩ := hlt
      obtain ⟨b, o, x, rfl, _, hbl, hx, c0, c1, c2, c3⟩ := er_cells (Hr.out.below Hb.out) hlt
      have hjI : (j : Int) < n := by omega
      have h3I : (j : Int) < 300 := by omega
      have hst := sumD_step hx
      have hsl : s ≤ 300 * 140737488351232 := by
        have h1 := sumD_le (L := L.take j) (K := 140737488351232) fun y hy => Hs.out y (List.mem_of_mem_take hy)
        have h2 : (L.take j).length ≤ 300 := by rw [List.length_take]; omega
        have h4 := Nat.mul_le_mul_right 140737488351232 h2
        have := Hsj.out
        omega
      have hxn := Hs.out x (List.mem_of_getElem? hx)
      obtain ⟨q, hq⟩ : ∃ q, q = x.n / 64 := ⟨_, rfl⟩
      have hq1 : ((x.n : Nat) : Int) / 64 = (q : Int) := by omega
      have hq2 : ((x.n : Nat) : Int).tdiv 64 = (q : Int) := by rw [Int.tdiv_eq_ediv_of_nonneg (by omega)]; exact hq1
      have hw1 : IntKind.i64.wrap ((s : Int) + (q : Int)) = (s : Int) + q := by rw [IntKind.wrap_i64]; omega
      have hw2 : IntKind.i64.wrap ((q : Nat) : Int) = (q : Int) := by rw [IntKind.wrap_i64]; omega
      rw [← hq, ← Hsj.out] at hst
      have Hst := Lib.hid hst
      clear hx hst hq hxn hsl
      go_wp2_with fail
      go_roundg (300 - (j + 1))
      case measure => have := Hm.out; omega
      case rel => exact ⟨j + 1, s + q, rfl, by omega, by omega, by go_num, by push_cast; rfl, Hst.out.symm, Hb.out⟩
    · have hfin : sumD (L.take 300) = s := by
        rw [Hsj.out]
        by_cases h3 : j = 300
        · rw [h3]
        · have hl := Hll.out
          rw [List.take_of_length_le (by omega), List.take_of_length_le (by omega)]
      have hV : longB L = (decide (200 < (n : Int)) || decide (400 < (s : Int))) := by
        unfold longB
        rw [hfin, Hll.out]
        congr 1
        · simp only [decide_eq_decide]; omega
        · simp only [decide_eq_decide]; omega
      have HV := Lib.hid hV
      clear hfin hV
      have hcase : ¬ ((j : Int) < n) ∨ ((j : Int) < n ∧ ¬ ((j : Int) < 300)) := by omega
      by_cases h2 : 200 < (n : Int)
      · rcases hcase with h | ⟨h, h'⟩
        all_goals
          go_wp2_with fail
          go_ret
          exact ⟨ret_bool (by rw [HV.out, decide_eq_true h2]; rfl), Hb.out⟩
      · have h2d : decide (200 < (n : Int)) = false := decide_eq_false h2
        rcases hcase with h | ⟨h, h'⟩
        all_goals
          go_wp2_with fail
          go_ret
          exact ⟨ret_bool (by rw [HV.out, h2d]; rfl), Hb.out⟩
end Go.Proofs.YtlecglmiigdjlaaGreatDoor
