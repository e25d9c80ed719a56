/- A disk in plain words; its object. -/
import Derived.Test.YtijgkejknijplaaDoorFlat
import Derived.Test.YtijgkejknijplaaDoorClone
import Derived.Laws.CopyOwn
namespace Go.Proofs.YtijgkejknijplaaDoor
open Go.RowKit
set_option linter.unusedVariables false
set_option linter.unusedSimpArgs false
/-- A disk: what is safe, what was written last, the writes that wait, the steps till the power goes and one, whether it is gone. -/
structure Dk where
  safe : List UInt8
  now : List UInt8
  q : List (Nat × List UInt8)
  armed : Int
  off : Bool
def lain (l : List UInt8) (q : List (Nat × List UInt8)) : List UInt8 := q.foldl (fun s x => splice s x.1 x.2) l
def Dk.settled (D : Dk) : Dk := { D with safe := lain D.safe D.q, q := [] }
def Dk.stepped (D : Dk) : Dk := if D.armed = 1 then { D with off := true, armed := 0 } else { D with armed := max 0 (D.armed - 1) }
def Dk.put (D : Dk) (p : Nat) (b : List UInt8) : Dk := { D with now := splice D.now p b, q := D.q ++ [(p, b)] }
/-- The number of the error of a step, of a place. -/
def Dk.stepE (D : Dk) : Int := if D.armed = 1 then 13 else 0
def Dk.withE (D : Dk) (p n : Int) : Int := if p < 0 ∨ n < 0 ∨ (D.safe.length : Int) < p ∨ (D.safe.length : Int) - p < n then 1 else if D.off then 13 else 0
theorem splice_length {α : Type} {l cs : List α} {p : Nat} (h : p + cs.length ≤ l.length) : (splice l p cs).length = l.length := length_splice l p cs h
theorem bs_splice (l d : List UInt8) (p : Nat) : bs (splice l p d) = splice (bs l) p (bs d) := by
  simp [splice, bs, List.map_take, List.map_drop]
theorem splice_take {α : Type} (cur cs : List α) (n p : Nat) (h : p + cs.length ≤ n) (hn : n ≤ cur.length) : (splice cur p cs).take n = splice (cur.take n) p cs := by
  unfold splice
  have h1 : (cur.take p).length = p := by simp; omega
  rw [List.take_append, h1, List.take_append, List.take_take, List.take_take, List.drop_take]
  congr 1
  · congr 1; omega
  · congr 1
    · exact List.take_of_length_le (by omega)
    · congr 1; omega
/-- Between two worlds all blocks but those of U are as they were. -/
structure Kept (U : Nat → Prop) (W W' : World) : Prop where
  os : W'.os = W.os
  tape : W'.tape = W.tape
  output : W'.output = W.output
  size : W.heap.size ≤ W'.heap.size
  block : ∀ i, i < W.heap.size → ¬ U i → W'.heap[i]? = W.heap[i]?
section
variable {U V : Nat → Prop} {W W' W2 : World}
theorem Kept.refl (U : Nat → Prop) (W : World) : Kept U W W := ⟨rfl, rfl, rfl, Nat.le_refl _, fun _ _ _ => rfl⟩
theorem Kept.trans (h : Kept U W W') (h2 : Kept V W' W2) (hv : ∀ b, b < W.heap.size → V b → U b) : Kept U W W2 :=
  ⟨h2.os.trans h.os, h2.tape.trans h.tape, h2.output.trans h.output, Nat.le_trans h.size h2.size, fun i hi hu => (h2.block i (Nat.lt_of_lt_of_le hi h.size) (fun hv' => hu (hv i hi hv'))).trans (h.block i hi hu)⟩
theorem Kept.of_below {B : Nat} (h : Below B W W') (hB : ∀ b, b < W.heap.size → B ≤ b → U b) : Kept U W W' :=
  ⟨h.os, h.tape, h.output, h.size, fun i hi hu => h.block i (Nat.lt_of_not_le fun hb => hu (hB i hi hb))⟩
theorem Kept.of_new (h : Below W.heap.size W W') : Kept U W W' := Kept.of_below h fun b h1 h2 => by omega
theorem Kept.below {B : Nat} (h : Kept U W W') (hB : ∀ b, U b → B ≤ b) (hz : B ≤ W.heap.size) : Below B W W' :=
  ⟨h.os, h.tape, h.output, h.size, fun i hi => h.block i (Nat.lt_of_lt_of_le hi hz) fun hu => by have := hB i hu; omega⟩
theorem Kept.drew (h : Kept U W W') : Kept U W W'.drew := ⟨h.os, h.tape, h.output, h.size, h.block⟩
theorem Kept.alloc (h : Kept U W W') (o : Obj) : Kept U W (W'.alloc o) := h.trans (V := U) (Kept.of_new ((Below.refl _ _).alloc (Nat.le_refl _) o)) (fun _ _ h => h)
theorem Kept.set (h : Kept U W W') {p : Addr} (hp : U p.block) (v : Value) : Kept U W (W'.setCell p v) :=
  ⟨h.os, h.tape, h.output, by simpa [World.setCell] using h.size, fun i hi hu => (Below.heap_setCell W' p v i (fun e => hu (e ▸ hp))).trans (h.block i hi hu)⟩
theorem Kept.grown {row : Option Nat} (h : Kept U W W') (hg : W'.grownBy W2 row) (hr : ∀ b, row = some b → U b) : Kept U W W2 :=
  ⟨hg.os.trans h.os, hg.tape.trans h.tape, hg.output.trans h.output, Nat.le_trans h.size hg.size, fun i hi hu => (hg.block i (Nat.lt_of_lt_of_le hi h.size) (fun e => hu (hr i e.symm))).trans (h.block i hi hu)⟩
theorem Kept.bx {g : Nat} {cs : Array Value} (h : Kept U W W') (hb : Bx W g cs) (hg : ¬ U g) : Bx W' g cs := hb.keep (h.block g hb.lt hg)
theorem Kept.rd {ok : Nat → Prop} {size n : Nat} {A : Option Addr} {xs : List Value} (h : Kept U W W') (hr : Rd W ok size A n xs) (hok : ∀ b, ok b → ¬ U b) : Rd W' ok size A n xs :=
  hr.keep fun b hb hlt => h.block b hlt (hok b hb)
theorem Kept.own {base : Nat} {e : TypeId} {size n m c : Nat} {A : Option Addr} {xs : List Value} (h : Kept U W W') (ho : W.ownsRow base e size (.slice A n c) m xs) (hA : ∀ b, A.map (·.block) = some b → ¬ U b) : W'.ownsRow base e size (.slice A n c) m xs := by
  refine ⟨ho.1, ?_⟩
  rcases ho.2 with h1 | ⟨g, cap, cur, h1, h2, h3, h4⟩
  · exact .inl h1
  · refine .inr ⟨g, cap, cur, h1, h2, ?_, h4⟩
    have hgl : g < W.heap.size := (Array.getElem?_eq_some_iff.1 h3).1
    rw [h.block g hgl (hA g (by injection h1 with h1; rw [h1]; rfl)), h3]
end
/-- One block alone is another one. -/
structure Only (g : Nat) (W W' : World) : Prop where
  os : W'.os = W.os
  tape : W'.tape = W.tape
  output : W'.output = W.output
  size : W'.heap.size = W.heap.size
  block : ∀ i, i ≠ g → W'.heap[i]? = W.heap[i]?
theorem Only.kept {g : Nat} {W W' : World} {U : Nat → Prop} (h : Only g W W') (hg : U g) : Kept U W W' := ⟨h.os, h.tape, h.output, Nat.le_of_eq h.size.symm, fun i hi hu => h.block i (fun e => hu (e ▸ hg))⟩
theorem Only.refl (g : Nat) (W : World) : Only g W W := ⟨rfl, rfl, rfl, rfl, fun _ _ => rfl⟩
theorem Only.setRow (w : World) (g : Nat) (cs : Array Value) : Only g w (w.setRow g cs) := ⟨rfl, rfl, rfl, by simp [World.setRow], fun k hk => setRow_other w g k cs hk⟩
theorem Only.bx {g k : Nat} {W W' : World} {cs : Array Value} (h : Only g W W') (hb : Bx W k cs) (hk : k ≠ g) : Bx W' k cs := hb.keep (h.block k hk)
/-- A row into which cells are laid. -/
theorem own_splice {W W' : World} {e : TypeId} {s n c p : Nat} {xs cs : List Value} {cur : Array Value} (ho : W.ownsRow 0 e 1 (.slice (some ⟨s, 0, none⟩) n c) n xs) (hcur : W.heap[s]? = some (.cells cur e (0, 0))) (h2 : W'.heap[s]? = some (.cells (splice cur.toList p cs).toArray e (0, 0))) (hp : p + cs.length ≤ n) :
    W'.ownsRow 0 e 1 (.slice (some ⟨s, 0, none⟩) n c) n (splice xs p cs) := by
  obtain ⟨h1, h | ⟨g, cap, cur', e1, -, e3, e4, e5, e6, e7⟩⟩ := ho
  · cases h.1
  · injection e1 with e1 _ e1'
    injection e1 with e1
    injection e1 with e1
    subst e1 e1'
    rw [hcur] at e3
    injection e3 with e3
    injection e3 with e3
    subst e3
    have hl : cur.toList.length = c * 1 := by simpa using e6
    refine ⟨by rw [splice_length (by omega)]; exact h1, .inr ⟨s, c, _, rfl, Nat.zero_le _, h2, e4, e5, ?_, ?_⟩⟩
    · have := splice_length (l := cur.toList) (cs := cs) (p := p) (by omega)
      simpa using this.trans hl
    · show List.take (n * 1) (splice cur.toList p cs) = _
      rw [splice_take _ _ _ _ (by omega) (by omega), e7]
theorem own_cur {W : World} {e : TypeId} {s n c size : Nat} {xs : List Value} (ho : W.ownsRow 0 e size (.slice (some ⟨s, 0, none⟩) n c) n xs) : ∃ cur : Array Value, W.heap[s]? = some (.cells cur e (0, 0)) ∧ cur.size = c * size ∧ n ≤ c ∧ c ≤ maxLen := by
  obtain ⟨h1, h | ⟨g, cap, cur', e1, -, e3, e4, e5, e6, e7⟩⟩ := ho
  · cases h.1
  · injection e1 with e1 _ e1'
    injection e1 with e1
    injection e1 with e1
    subst e1 e1'
    exact ⟨cur', e3, e6, e4, e5⟩
/-- 'copy(s[p:], b)', s a row of the disk's. -/
theorem wpList_copy_into {P : Program} {w : World} {ops : Array Oper} {rest : List Oper} {o : Oper} {a : Act} {Q : Exit → Act → World → Prop} (hgd : o.guard = none) (d s : Operand) (dT sT : TypeId)
    (ho : o.op = .call { callee := .builtin .copy, args := #[d, s], argTypes := #[dT, sT] }) (elem : TypeId) (hu : P.underlying dT = some (.slice elem)) (hsz : (P.info? elem).map (·.size) = some 1)
    (dp sp : Option Addr) (dLen dCap sLen sCap : Nat) (hd : a.eval d = .slice dp dLen dCap) (hs : a.eval s = .slice sp sLen sCap)
    (g p n c : Nat) (xs cs : List Value) (hown : w.ownsRow 0 elem 1 (.slice (some ⟨g, 0, none⟩) n c) n xs) {ok : Nat → Prop} (hr : Rd w ok 1 sp sLen cs) (hdp : 0 < cs.length → dp = some ⟨g, p, none⟩) (hle : sLen ≤ dLen) (hfit : p + cs.length ≤ n) (h1 : ∀ v ∈ cs, v.oneCell' = true)
    (h : ∀ w', w'.ownsRow 0 elem 1 (.slice (some ⟨g, 0, none⟩) n c) n (splice xs p cs) → Only g w w' → wpList P ops Q rest (a.put o.dst (goInt cs.length)) w') :
    wpList P ops Q (o :: rest) a w := by
  have hcl : cs.length = sLen := by simpa using hr.1
  by_cases h0 : cs.length = 0
  · obtain rfl : cs = [] := List.eq_nil_of_length_eq_zero h0
    refine wpList_copy_nothing hgd d s dT sT ho elem hu hsz dp sp dLen dCap sLen sCap hd hs (by simp at hcl; simp [← hcl]) ?_
    exact h w (by simpa [splice] using hown) (Only.refl _ _)
  · obtain rfl := hdp (by omega)
    obtain ⟨cur, hg, hcz, hnc, hcm⟩ := own_cur hown
    obtain ⟨ad, rfl, hb, hcell⟩ := hr.2 (by omega)
    refine wpList_copy_own hgd d s dT sT ho elem hu hsz g p dLen dCap ad sLen sCap hd hs cur elem hg cs (by rw [hcl]; simp [Nat.min_def, hle]) hcell (by omega) h1 ?_
    exact h _ (own_splice hown hg (setRow_heap w g _ _ elem _ hg) hfit) (Only.setRow _ _ _)
end Go.Proofs.YtijgkejknijplaaDoor
