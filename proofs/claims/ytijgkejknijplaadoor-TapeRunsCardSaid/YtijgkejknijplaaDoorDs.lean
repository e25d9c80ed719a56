/- A disk in memory: its object, its rows, its queue. -/
import Derived.Test.YtijgkejknijplaaDoorDkL
import Derived.Test.YtijgkejknijplaaDoorBox
import Derived.Test.YtijgkejknijplaaDoorRow
namespace Go.Proofs.YtijgkejknijplaaDoor
open Go.RowKit
set_option linter.unusedVariables false
set_option linter.unusedSimpArgs false
/-- A write that waits: its place, its bytes' slice, its bytes. -/
structure Wq where
  p : Nat
  A : Option Addr
  n : Nat
  m : Nat
  d : List UInt8
def wcell (y : Wq) : List Value := [.int .i64 y.p, .slice y.A y.n y.m]
theorem wcell_len (y : Wq) : (wcell y).length = 2 := rfl
theorem wcell_one (l : List Wq) : ∀ u ∈ flat wcell l, u.oneCell' = true := by
  induction l with
  | nil => intro u hu; cases hu
  | cons x l ih =>
    intro u hu
    rw [flat_cons, List.mem_append] at hu
    rcases hu with hu | hu
    · simp only [wcell, List.mem_cons, List.not_mem_nil, or_false] at hu
      rcases hu with rfl | rfl <;> rfl
    · exact ih u hu
def wq (y : Wq) : Nat × List UInt8 := (y.p, y.d)
/-- The queue's bytes: each lies within L, in none of the disk's own blocks. -/
def QDat (W : World) (L : Nat → Prop) (g s o : Nat) (Q : Option Addr) (qs : List Wq) : Prop := ∀ y ∈ qs, Rd W (fun b => L b ∧ b ≠ g ∧ b ≠ s ∧ b ≠ o ∧ Q.map (·.block) ≠ some b) 1 y.A y.n (bs y.d) ∧ y.n ≤ y.m ∧ y.m ≤ maxLen
/-- The disk D lies at g; all its blocks are of L. -/
structure DS (W : World) (L : Nat → Prop) (g : Nat) (D : Dk) (z s o : Nat) (cS cO : Nat) (Q : Option Addr) (nq cQ : Nat) (qs : List Wq) : Prop where
  bx : Bx W g #[.slice (some ⟨s, 0, none⟩) z cS, .slice (some ⟨o, 0, none⟩) z cO, .slice Q nq cQ, .int .i64 D.armed, .bool D.off]
  safe : W.ownsRow 0 5 1 (.slice (some ⟨s, 0, none⟩) z cS) z (bs D.safe)
  now : W.ownsRow 0 5 1 (.slice (some ⟨o, 0, none⟩) z cO) z (bs D.now)
  que : W.ownsRow 0 65 2 (.slice Q nq cQ) nq (flat wcell qs)
  dat : QDat W L g s o Q qs
  qd : qs.map wq = D.q
  lg : L g
  ls : L s
  lo : L o
  lq : ∀ b, Q.map (·.block) = some b → L b
  gs : g ≠ s
  go : g ≠ o
  so : s ≠ o
  gq : Q.map (·.block) ≠ some g
  sq : Q.map (·.block) ≠ some s
  oq : Q.map (·.block) ≠ some o
  lt : ∀ b, L b → b < W.heap.size
  z1 : 1 ≤ z
  z2 : z ≤ 4194304
/-- A disk, somewhere within L. -/
def DX (W : World) (L : Nat → Prop) (g : Nat) (D : Dk) (z : Nat) : Prop := ∃ s o cS cO Q nq cQ qs, DS W L g D z s o cS cO Q nq cQ qs ∧ D.Ok z
section
variable {W W' : World} {L L' : Nat → Prop} {g : Nat} {D : Dk} {z s o cS cO : Nat} {Q : Option Addr} {nq cQ : Nat} {qs : List Wq}
theorem DS.x (h : DS W L g D z s o cS cO Q nq cQ qs) (hk : D.Ok z) : DX W L g D z := ⟨s, o, cS, cO, Q, nq, cQ, qs, h, hk⟩
theorem own_kb {B : Nat} {e : TypeId} {size n m c : Nat} {A : Option Addr} {xs : List Value} (ho : W.ownsRow B e size (.slice A n c) m xs) (hk : ∀ b, A.map (·.block) = some b → W'.heap[b]? = W.heap[b]?) : W'.ownsRow B e size (.slice A n c) m xs := by
  refine ⟨ho.1, ?_⟩
  rcases ho.2 with h1 | ⟨g, cap, cur, h1, h2, h3, h4⟩
  · exact .inl h1
  · refine .inr ⟨g, cap, cur, h1, h2, ?_, h4⟩
    rw [hk g (by injection h1 with h1; rw [h1]; rfl), h3]
theorem own_zero {B : Nat} {e : TypeId} {size n m c : Nat} {A : Option Addr} {xs : List Value} (ho : W.ownsRow B e size (.slice A n c) m xs) : W.ownsRow 0 e size (.slice A n c) m xs := by
  refine ⟨ho.1, ?_⟩
  rcases ho.2 with h1 | ⟨g, cap, cur, h1, h2, h4⟩
  · exact .inl h1
  · exact .inr ⟨g, cap, cur, h1, Nat.zero_le _, h4⟩
/-- Where all of L's blocks are as they were. -/
theorem DS.keep (h : DS W L g D z s o cS cO Q nq cQ qs) (hk : ∀ b, L b → W'.heap[b]? = W.heap[b]?) (hz : W.heap.size ≤ W'.heap.size) : DS W' L g D z s o cS cO Q nq cQ qs :=
  ⟨h.bx.keep (hk g h.lg), own_kb h.safe (fun b hb => hk b (by injection hb with hb; exact hb ▸ h.ls)), own_kb h.now (fun b hb => hk b (by injection hb with hb; exact hb ▸ h.lo)), own_kb h.que (fun b hb => hk b (h.lq b hb)),
    fun y hy => ⟨(h.dat y hy).1.keep fun b hb _ => hk b hb.1, (h.dat y hy).2⟩, h.qd, h.lg, h.ls, h.lo, h.lq, h.gs, h.go, h.so, h.gq, h.sq, h.oq, fun b hb => Nat.lt_of_lt_of_le (h.lt b hb) hz, h.z1, h.z2⟩
theorem DS.below (h : DS W L g D z s o cS cO Q nq cQ qs) (hb : Below W.heap.size W W') : DS W' L g D z s o cS cO Q nq cQ qs := h.keep (fun b hl => hb.block b (h.lt b hl)) hb.size
theorem DS.drew (h : DS W L g D z s o cS cO Q nq cQ qs) : DS W.drew L g D z s o cS cO Q nq cQ qs := h.keep (fun _ _ => rfl) (Nat.le_refl _)
theorem DS.alloc (h : DS W L g D z s o cS cO Q nq cQ qs) (ob : Obj) : DS (W.alloc ob) L g D z s o cS cO Q nq cQ qs := h.below ((Below.refl _ _).alloc (Nat.le_refl _) ob)
theorem DS.nqs (h : DS W L g D z s o cS cO Q nq cQ qs) : qs.length = nq := Rd.flen (w := W) wcell_len (by omega) (Rd.of_own h.que)
theorem DS.qlen (h : DS W L g D z s o cS cO Q nq cQ qs) : D.q.length = nq := by rw [← h.qd, List.length_map]; exact h.nqs
theorem DS.up (h : DS W L g D z s o cS cO Q nq cQ qs) (hl : ∀ b, L b → L' b) (hlt : ∀ b, L' b → b < W.heap.size) : DS W L' g D z s o cS cO Q nq cQ qs :=
  ⟨h.bx, h.safe, h.now, h.que, fun y hy => ⟨(h.dat y hy).1.mono fun b hb => ⟨hl b hb.1, hb.2⟩, (h.dat y hy).2⟩, h.qd, hl _ h.lg, hl _ h.ls, hl _ h.lo, fun b hb => hl b (h.lq b hb), h.gs, h.go, h.so, h.gq, h.sq, h.oq, hlt, h.z1, h.z2⟩
theorem DX.keep (h : DX W L g D z) (hk : ∀ b, L b → W'.heap[b]? = W.heap[b]?) (hz : W.heap.size ≤ W'.heap.size) : DX W' L g D z := by
  obtain ⟨_, _, _, _, _, _, _, _, h, hk0⟩ := h
  exact (h.keep hk hz).x hk0
theorem DX.below (h : DX W L g D z) (hb : Below W.heap.size W W') : DX W' L g D z := by
  obtain ⟨_, _, _, _, _, _, _, _, h, hk0⟩ := h
  exact (h.below hb).x hk0
theorem DX.lt (h : DX W L g D z) : ∀ b, L b → b < W.heap.size := by
  obtain ⟨_, _, _, _, _, _, _, _, h, hk0⟩ := h
  exact h.lt
theorem DX.lg (h : DX W L g D z) : L g := by
  obtain ⟨_, _, _, _, _, _, _, _, h, hk0⟩ := h
  exact h.lg
theorem DX.ok (h : DX W L g D z) : D.Ok z := by
  obtain ⟨_, _, _, _, _, _, _, _, h, hk0⟩ := h
  exact hk0
/-- The words armed and off are other ones. -/
theorem DS.flags (h : DS W L g D z s o cS cO Q nq cQ qs) {a : Int} {b : Bool} (hb : Bx W' g #[.slice (some ⟨s, 0, none⟩) z cS, .slice (some ⟨o, 0, none⟩) z cO, .slice Q nq cQ, .int .i64 a, .bool b]) (hk : Only g W W') :
    DS W' L g { D with armed := a, off := b } z s o cS cO Q nq cQ qs :=
  ⟨hb, own_kb h.safe (fun k hk' => hk.block k (by injection hk' with e; have := h.gs; intro e2; exact this (e2.symm.trans e.symm))), own_kb h.now (fun k hk' => hk.block k (by injection hk' with e; have := h.go; intro e2; exact this (e2.symm.trans e.symm))), own_kb h.que (fun k hk' => hk.block k (fun e => h.gq (e ▸ hk'))),
    fun y hy => ⟨(h.dat y hy).1.keep fun b hb _ => hk.block b hb.2.1, (h.dat y hy).2⟩, h.qd, h.lg, h.ls, h.lo, h.lq, h.gs, h.go, h.so, h.gq, h.sq, h.oq, fun b hb => by rw [hk.size]; exact h.lt b hb, h.z1, h.z2⟩
end
theorem Only.set (W : World) (p : Addr) (v : Value) {g : Nat} (hp : p.block = g) : Only g W (W.setCell p v) := by
  subst hp
  exact ⟨rfl, rfl, rfl, by simp [World.setCell], fun i hi => Below.heap_setCell W p v i (fun e => hi e)⟩
theorem Only.trans {g : Nat} {W W' W2 : World} (h : Only g W W') (h2 : Only g W' W2) : Only g W W2 := ⟨h2.os.trans h.os, h2.tape.trans h.tape, h2.output.trans h.output, h2.size.trans h.size, fun i hi => (h2.block i hi).trans (h.block i hi)⟩
theorem Only.drew {g : Nat} {W W' : World} (h : Only g W W') : Only g W W'.drew := ⟨h.os, h.tape, h.output, h.size, h.block⟩
theorem Only.drews {g : Nat} {W : World} : Only g W W.drew := (Only.refl _ _).drew
/-- Behind a call at the disk: it is D', what it has now it had ahead or is new, and all other blocks are as they were. -/
def Aft (W : World) (L : Nat → Prop) (g : Nat) (D' : Dk) (z : Nat) (w' : World) : Prop := ∃ L', DX w' L' g D' z ∧ (∀ b, L' b → L b ∨ W.heap.size ≤ b) ∧ Kept L W w'
section
variable {W W' W2 : World} {L L' : Nat → Prop} {g : Nat} {D D' : Dk} {z : Nat}
theorem Aft.refl (h : DX W L g D z) : Aft W L g D z W := ⟨L, h, fun b hb => .inl hb, Kept.refl _ _⟩
theorem Aft.new {w : World} (h : DX W L g D z) (hb : Below W.heap.size W w) : Aft W L g D z w := ⟨L, h.below hb, fun b hb => .inl hb, Kept.of_new hb⟩
theorem Aft.same {w : World} (h : Aft W L g D z W') (hb : Below W'.heap.size W' w) : Aft W L g D z w := by
  obtain ⟨L', h1, h2, h3⟩ := h
  exact ⟨L', h1.below hb, h2, h3.trans (V := L) (Kept.of_below hb fun b h4 h5 => by omega) fun b _ h => h⟩
/-- One call behind the other. -/
theorem Kept.next (h : Kept L W W') (h2 : Kept L' W' W2) (hl : ∀ b, L' b → L b ∨ W.heap.size ≤ b) : Kept L W W2 := h.trans h2 fun b h3 h4 => by rcases hl b h4 with h5 | h5; exact h5; omega
theorem within_next {L2 : Nat → Prop} (h : Kept L W W') (hl : ∀ b, L' b → L b ∨ W.heap.size ≤ b) (hl2 : ∀ b, L2 b → L' b ∨ W'.heap.size ≤ b) : ∀ b, L2 b → L b ∨ W.heap.size ≤ b := fun b h2 => by
  rcases hl2 b h2 with h3 | h3
  · exact hl b h3
  · exact .inr (Nat.le_trans h.size h3)
end
/-- Blocks but one, if there is one, are as they were. -/
structure OnlyQ (q : Option Nat) (W W' : World) : Prop where
  os : W'.os = W.os
  tape : W'.tape = W.tape
  output : W'.output = W.output
  size : W'.heap.size = W.heap.size
  block : ∀ i, q ≠ some i → W'.heap[i]? = W.heap[i]?
theorem OnlyQ.refl (q : Option Nat) (W : World) : OnlyQ q W W := ⟨rfl, rfl, rfl, rfl, fun _ _ => rfl⟩
theorem OnlyQ.kept {q : Option Nat} {W W' : World} {U : Nat → Prop} (h : OnlyQ q W W') (hg : ∀ b, q = some b → U b) : Kept U W W' := ⟨h.os, h.tape, h.output, Nat.le_of_eq h.size.symm, fun i hi hu => h.block i (fun e => hu (hg i e))⟩
theorem Only.q {g : Nat} {W W' : World} (h : Only g W W') : OnlyQ (some g) W W' := ⟨h.os, h.tape, h.output, h.size, fun i hi => h.block i (fun e => hi (by rw [e]))⟩
theorem Only.cells (g : Nat) (vs : List Value) : ∀ (w : World) (o : Nat), Only g w (w.setCells g o vs) := by
  induction vs with
  | nil => intro w o; exact Only.refl _ _
  | cons v vs ih => intro w o; exact (Only.set w ⟨g, o, none⟩ v rfl).trans (ih _ (o + 1))
theorem run_clear_any {P : Program} (w : World) (t e ty : TypeId) (z : Value) (k : Nat) (ht : P.underlying t = some (.slice e)) (hv : ∀ w, (zeroValue e).run P w = .ok z w) (hk : z.cells.size = k) (h1 : ∀ i, i < k → (z.cells[i]!).oneCell' = true)
    {Q : Option Addr} {n c : Nat} {xs : List Value} (hown : w.ownsRow 0 e k (.slice Q n c) n xs) :
    ∃ w' xs', (Builtin.clear_ #[t] ty #[.slice Q n c]).run P w = .ok (.tuple #[]) w' ∧ w'.ownsRow 0 e k (.slice Q n c) n xs' ∧ OnlyQ (Q.map (·.block)) w w' := by
  rcases Nat.eq_zero_or_pos n with rfl | hn
  · refine ⟨w, xs, ?_, hown, OnlyQ.refl _ _⟩
    cases Q <;> simp [Builtin.clear_, run_underlying ht]
  · obtain ⟨g, cap, hv', hb, hlt⟩ := hown.form hn
    injection hv' with hv' _ hcap
    subst hv' hcap
    have hvs : ∀ v ∈ (Builtin.zeroCells z.cells n).toList, v.oneCell' = true := by
      intro v hv
      simp only [Builtin.zeroCells, Array.toList_map, Array.toList_range, List.mem_map, List.mem_range] at hv
      obtain ⟨i, hi, rfl⟩ := hv
      refine h1 _ ?_
      rw [← hk]
      exact Nat.mod_lt _ (by rcases Nat.eq_zero_or_pos z.cells.size with h0 | h0; (rw [h0] at hi; simp at hi); exact h0)
    have hlen : (Builtin.zeroCells z.cells n).toList.length = n * k := by simp [Builtin.zeroCells, hk]
    have hnc : n * k ≤ c * k := Nat.mul_le_mul_right k (own_le hown)
    have hfr : ∀ j, w.frozen? ⟨g, j, none⟩ = false := by
      intro j
      rcases hown.2 with ⟨h', _⟩ | ⟨g', cap', cur, h', _, hg, _⟩
      · simp at h'
      · simp only [Value.slice.injEq, Option.some.injEq, Addr.mk.injEq, and_true, true_and] at h'
        obtain ⟨rfl, rfl⟩ := h'
        simp [World.frozen?, hg]
    have hst := run_storeCells_cells (P := P) g 0 (Builtin.zeroCells z.cells n).toList 0 w (fun j hj => by simpa using own_isSome hown j (by omega)) (fun j _ => by simpa using hfr j) hvs
    refine ⟨w.setCells g (0 + 0) (Builtin.zeroCells z.cells n).toList, _, ?_, (own_setCells (w := w) (xs := xs) _ w xs (0 + 0) hown).1, (Only.cells g _ _ _).q⟩
    obtain ⟨n', rfl⟩ : ∃ n', n = n' + 1 := ⟨n - 1, by omega⟩
    simp [Builtin.clear_, run_underlying ht, hv, hst]
section
variable {W W' W4 : World} {L : Nat → Prop} {g : Nat} {D : Dk} {z s o cS cO : Nat} {Q : Option Addr} {nq cQ : Nat} {qs : List Wq}
/-- Bytes are laid into what is safe. -/
theorem DS.layS (h : DS W L g D z s o cS cO Q nq cQ qs) {p : Nat} {b : List UInt8} (hw : W'.ownsRow 0 5 1 (.slice (some ⟨s, 0, none⟩) z cS) z (splice (bs D.safe) p (bs b))) (ho : Only s W W') :
    DS W' L g { D with safe := splice D.safe p b } z s o cS cO Q nq cQ qs :=
  ⟨h.bx.keep (ho.block g h.gs), by show World.ownsRow _ _ _ _ _ _ (bs (splice D.safe p b)); rw [bs_splice]; exact hw, own_kb h.now (fun k hk => ho.block k (by injection hk with e; have := h.so; intro e2; exact this (e2.symm.trans e.symm))), own_kb h.que (fun k hk => ho.block k (fun e => h.sq (e ▸ hk))),
    fun y hy => ⟨(h.dat y hy).1.keep fun b hb _ => ho.block b hb.2.2.1, (h.dat y hy).2⟩, h.qd, h.lg, h.ls, h.lo, h.lq, h.gs, h.go, h.so, h.gq, h.sq, h.oq, fun b hb => by rw [ho.size]; exact h.lt b hb, h.z1, h.z2⟩
/-- Bytes are laid into what was written last. -/
theorem DS.layN (h : DS W L g D z s o cS cO Q nq cQ qs) {p : Nat} {b : List UInt8} (hw : W'.ownsRow 0 5 1 (.slice (some ⟨o, 0, none⟩) z cO) z (splice (bs D.now) p (bs b))) (ho : Only o W W') :
    DS W' L g { D with now := splice D.now p b } z s o cS cO Q nq cQ qs :=
  ⟨h.bx.keep (ho.block g h.go), own_kb h.safe (fun k hk => ho.block k (by injection hk with e; have := h.so; intro e2; exact this (e.trans e2))), by show World.ownsRow _ _ _ _ _ _ (bs (splice D.now p b)); rw [bs_splice]; exact hw, own_kb h.que (fun k hk => ho.block k (fun e => h.oq (e ▸ hk))),
    fun y hy => ⟨(h.dat y hy).1.keep fun b hb _ => ho.block b hb.2.2.2.1, (h.dat y hy).2⟩, h.qd, h.lg, h.ls, h.lo, h.lq, h.gs, h.go, h.so, h.gq, h.sq, h.oq, fun b hb => by rw [ho.size]; exact h.lt b hb, h.z1, h.z2⟩
/-- A write more waits: its bytes lie in a row of their own, A4 is the queue's row behind append. -/
theorem DS.push (h : DS W L g D z s o cS cO Q nq cQ qs) {p n3 c3 c4 k B : Nat} {A3 A4 : Option Addr} {d : List UInt8} (ho3 : W.ownsRow B 5 1 (.slice A3 n3 c3) n3 (bs d)) (h3 : ∀ b, A3.map (·.block) = some b → ¬ L b) (hk : k = nq + 1)
    (ho4 : W4.ownsRow 0 65 2 (.slice A4 k c4) k (flat wcell qs ++ [.int .i64 p, .slice A3 n3 c3])) (hg : W.grownBy W4 (Q.map (·.block))) (hat : A4.map (·.block) = Q.map (·.block) ∨ A4.map (·.block) = some W.heap.size) :
    DS (W4.setCell ⟨g, 2, none⟩ (.slice A4 k c4)) (fun b => L b ∨ A3.map (·.block) = some b ∨ A4.map (·.block) = some b) g { D with q := D.q ++ [(p, d)] } z s o cS cO A4 k c4 (qs ++ [⟨p, A3, n3, c3, d⟩]) := by
  subst hk
  have l3 := own_lt ho3
  have l4 := own_lt ho4
  have hz := hg.size
  have hgl := h.bx.lt
  have hsl := h.lt s h.ls
  have hol := h.lt o h.lo
  have k1 : ∀ i, i < W.heap.size → Q.map (·.block) ≠ some i → i ≠ g → (W4.setCell ⟨g, 2, none⟩ (.slice A4 (nq + 1) c4)).heap[i]? = W.heap[i]? := fun i hi hq hig => (Below.heap_setCell _ _ _ i (fun e => hig e)).trans (hg.block i hi (fun e => hq e.symm))
  have a4 : ∀ i, i < W.heap.size → Q.map (·.block) ≠ some i → A4.map (·.block) ≠ some i := by
    intro i hi hq e
    rcases hat with h1 | h1
    · rw [h1] at e; exact hq e
    · rw [h1] at e; injection e with e; omega
  have d3 : ∀ b, A3.map (·.block) = some b → b < W.heap.size ∧ b ≠ g ∧ b ≠ s ∧ b ≠ o ∧ Q.map (·.block) ≠ some b := fun b hb => ⟨(l3 b hb).2, fun e => h3 b hb (e ▸ h.lg), fun e => h3 b hb (e ▸ h.ls), fun e => h3 b hb (e ▸ h.lo), fun e => h3 b hb (h.lq b e)⟩
  refine ⟨?_, own_kb h.safe ?_, own_kb h.now ?_, ?_, ?_, ?_, .inl h.lg, .inl h.ls, .inl h.lo, fun b hb => .inr (.inr hb), h.gs, h.go, h.so, a4 g hgl h.gq, a4 s hsl h.sq, a4 o hol h.oq, ?_, h.z1, h.z2⟩
  · exact (h.bx.grown hg h.gq).set 2 _
  · intro b hb
    injection hb with hb
    dsimp only at hb
    subst hb
    exact k1 _ hsl h.sq h.gs.symm
  · intro b hb
    injection hb with hb
    dsimp only at hb
    subst hb
    exact k1 _ hol h.oq h.go.symm
  · rw [flat_append, flat_one]
    exact own_kb ho4 fun b hb => Below.heap_setCell _ _ _ b (fun e => a4 g hgl h.gq ((show b = g from e) ▸ hb))
  · intro y hy
    rcases List.mem_append.1 hy with h1 | h1
    · obtain ⟨r, h2⟩ := h.dat y h1
      refine ⟨?_, h2⟩
      refine ((r.lt (by omega)).keep fun b hb hlt => k1 b hlt hb.1.2.2.2.2 hb.1.2.1).mono fun b hb => ⟨.inl hb.1.1, hb.1.2.1, hb.1.2.2.1, hb.1.2.2.2.1, a4 b hb.2 hb.1.2.2.2.2⟩
    · obtain rfl := List.mem_singleton.1 h1
      have hm := own_form ho3
      obtain ⟨A', c', hv, hm1, hm2⟩ := hm
      injection hv with _ _ hv
      subst hv
      refine ⟨?_, hm1, hm2⟩
      have r := (Rd.of_own ho3).blk (ok' := fun b => A3.map (·.block) = some b) fun b hb => hb
      refine (r.keep fun b hb hlt => k1 b hlt (d3 b hb).2.2.2.2 (d3 b hb).2.1).mono fun b hb => ⟨.inr (.inl hb), (d3 b hb).2.1, (d3 b hb).2.2.1, (d3 b hb).2.2.2.1, a4 b (d3 b hb).1 (d3 b hb).2.2.2.2⟩
  · rw [List.map_append, h.qd]; rfl
  · intro b hb
    have hz4 : (W4.setCell ⟨g, 2, none⟩ (.slice A4 (nq + 1) c4)).heap.size = W4.heap.size := by simp [World.setCell]
    rw [hz4]
    rcases hb with h1 | h1 | h1
    · have := h.lt b h1; omega
    · have := (l3 b h1).2; omega
    · exact (l4 b h1).2
/-- The queue is a shorter one, in the same row; what its cells behind are, no matter. -/
theorem DS.cutQ (h : DS W L g D z s o cS cO Q nq cQ qs) {Q' : Option Addr} {k : Nat} {q' : List (Nat × List UInt8)} {qs' : List Wq} (hq : OnlyQ (Q.map (·.block)) W W') (hbl : Q'.map (·.block) = Q.map (·.block)) (ho : W'.ownsRow 0 65 2 (.slice Q' k cQ) k (flat wcell qs'))
    (hd : QDat W L g s o Q qs') (hm : qs'.map wq = q') :
    DS (W'.setCell ⟨g, 2, none⟩ (.slice Q' k cQ)) L g { D with q := q' } z s o cS cO Q' k cQ qs' := by
  have k1 : ∀ i, Q.map (·.block) ≠ some i → i ≠ g → (W'.setCell ⟨g, 2, none⟩ (.slice Q' k cQ)).heap[i]? = W.heap[i]? := fun i hq' hig => (Below.heap_setCell _ _ _ i (fun e => hig e)).trans (hq.block i hq')
  refine ⟨(h.bx.keep (hq.block g h.gq)).set 2 _, own_kb h.safe ?_, own_kb h.now ?_, own_kb ho fun b hb => Below.heap_setCell _ _ _ b (fun e => h.gq (by rw [← hbl, hb, e])), fun y hy => ⟨?_, (hd y hy).2⟩, hm, h.lg, h.ls, h.lo, by rw [hbl]; exact h.lq, h.gs, h.go, h.so, by rw [hbl]; exact h.gq, by rw [hbl]; exact h.sq, by rw [hbl]; exact h.oq, ?_, h.z1, h.z2⟩
  · intro b hb
    injection hb with hb
    dsimp only at hb
    subst hb
    exact k1 _ h.sq h.gs.symm
  · intro b hb
    injection hb with hb
    dsimp only at hb
    subst hb
    exact k1 _ h.oq h.go.symm
  · rw [hbl]
    exact (hd y hy).1.keep fun b hb _ => k1 b hb.2.2.2.2 hb.2.1
  · intro b hb
    have : (W'.setCell ⟨g, 2, none⟩ (.slice Q' k cQ)).heap.size = W.heap.size := by simp [World.setCell, hq.size]
    rw [this]
    exact h.lt b hb
end
def errD (k : Int) : Value := if k = 0 then .nilIface else .iface 58 (.int .i64 k)
section
variable {W W' : World} {L : Nat → Prop} {g : Nat} {D : Dk} {z s o cS cO : Nat} {Q : Option Addr} {nq cQ : Nat} {qs : List Wq}
theorem DS.slen (h : DS W L g D z s o cS cO Q nq cQ qs) : D.safe.length = z := (Rd.of_own h.safe).blen
theorem DS.nlen (h : DS W L g D z s o cS cO Q nq cQ qs) : D.now.length = z := (Rd.of_own h.now).blen
theorem DS.zc (h : DS W L g D z s o cS cO Q nq cQ qs) : z ≤ cS ∧ z ≤ cO ∧ nq ≤ cQ := ⟨own_le h.safe, own_le h.now, own_le h.que⟩
theorem DS.c (h : DS W L g D z s o cS cO Q nq cQ qs) : W.cell? ⟨g, 0, none⟩ = some (.slice (some ⟨s, 0, none⟩) z cS) ∧ W.cell? ⟨g, 1, none⟩ = some (.slice (some ⟨o, 0, none⟩) z cO) ∧ W.cell? ⟨g, 2, none⟩ = some (.slice Q nq cQ) ∧ W.cell? ⟨g, 3, none⟩ = some (.int .i64 D.armed) ∧ W.cell? ⟨g, 4, none⟩ = some (.bool D.off) := ⟨h.bx.c 0, h.bx.c 1, h.bx.c 2, h.bx.c 3, h.bx.c 4⟩
/-- The queue's cells are other ones. -/
theorem DS.reQ (h : DS W L g D z s o cS cO Q nq cQ qs) {q' : List (Nat × List UInt8)} {qs' : List Wq} (hq : OnlyQ (Q.map (·.block)) W W') (ho : W'.ownsRow 0 65 2 (.slice Q nq cQ) nq (flat wcell qs'))
    (hd : QDat W L g s o Q qs') (hm : qs'.map wq = q') :
    DS W' L g { D with q := q' } z s o cS cO Q nq cQ qs' := by
  refine ⟨h.bx.keep (hq.block g h.gq), own_kb h.safe ?_, own_kb h.now ?_, ho, fun y hy => ⟨?_, (hd y hy).2⟩, hm, h.lg, h.ls, h.lo, h.lq, h.gs, h.go, h.so, h.gq, h.sq, h.oq, ?_, h.z1, h.z2⟩
  · intro b hb
    injection hb with hb
    dsimp only at hb
    subst hb
    exact hq.block _ h.sq
  · intro b hb
    injection hb with hb
    dsimp only at hb
    subst hb
    exact hq.block _ h.oq
  · exact (hd y hy).1.keep fun b hb _ => hq.block b hb.2.2.2.2
  · intro b hb
    rw [hq.size]
    exact h.lt b hb
/-- A new row in the place of what was written last. -/
theorem DS.newNow (h : DS W L g D z s o cS cO Q nq cQ qs) {o' c' B : Nat} {l : List UInt8} (ho : W.ownsRow B 5 1 (.slice (some ⟨o', 0, none⟩) z c') z (bs l)) (hn : ¬ L o') :
    DS (W.setCell ⟨g, 1, none⟩ (.slice (some ⟨o', 0, none⟩) z c')) (fun b => L b ∨ b = o') g { D with now := l } z s o' cS c' Q nq cQ qs := by
  have k1 : ∀ i, i ≠ g → (W.setCell ⟨g, 1, none⟩ (.slice (some ⟨o', 0, none⟩) z c')).heap[i]? = W.heap[i]? := fun i hig => Below.heap_setCell _ _ _ i (fun e => hig e)
  have ne : ∀ b, L b → b ≠ o' := fun b hb e => hn (e ▸ hb)
  have hol := (own_lt ho o' rfl).2
  refine ⟨h.bx.set 1 _, own_kb h.safe ?_, own_kb (own_zero ho) ?_, own_kb h.que ?_, fun y hy => ⟨?_, (h.dat y hy).2⟩, h.qd, .inl h.lg, .inl h.ls, .inr rfl, fun b hb => .inl (h.lq b hb), h.gs, ne _ h.lg, ne _ h.ls, h.gq, h.sq, fun e => hn (h.lq _ e), ?_, h.z1, h.z2⟩
  · intro b hb
    injection hb with hb
    dsimp only at hb
    subst hb
    exact k1 _ h.gs.symm
  · intro b hb
    injection hb with hb
    dsimp only at hb
    subst hb
    exact k1 _ (ne _ h.lg).symm
  · exact fun b hb => k1 b fun e => h.gq (e ▸ hb)
  · exact ((h.dat y hy).1.keep fun b hb _ => k1 b hb.2.1).mono fun b hb => ⟨.inl hb.1, hb.2.1, hb.2.2.1, ne b hb.1, hb.2.2.2.2⟩
  · intro b hb
    have : (W.setCell ⟨g, 1, none⟩ (.slice (some ⟨o', 0, none⟩) z c')).heap.size = W.heap.size := by simp [World.setCell]
    rw [this]
    rcases hb with h1 | rfl
    · exact h.lt b h1
    · exact hol
end
end Go.Proofs.YtijgkejknijplaaDoor
