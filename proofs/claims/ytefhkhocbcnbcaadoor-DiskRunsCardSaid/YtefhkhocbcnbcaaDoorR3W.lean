/- Walks of the document's disk. -/
import Derived.Test.YtefhkhocbcnbcaaDoorR3
import Derived.Test.YtefhkhocbcnbcaaDoorArm
import Derived.Test.YtefhkhocbcnbcaaDoorWide
import Derived.Test.YtefhkhocbcnbcaaDoorGrow
import Derived.Test.YtefhkhocbcnbcaaDoorStill
import Derived.Deep.LoopGhost
import Derived.Deep.DeepCutAuto
namespace Go.Proofs.YtefhkhocbcnbcaaDoor
open Go.RowKit
set_option maxRecDepth 100000
set_option linter.unusedVariables false
set_option linter.unusedSimpArgs false
abbrev rval (R : R3) (BA : Option Addr) (bn bc : Nat) (LA : Option Addr) (ln lc : Nat) : Value := .agg #[.slice BA bn bc, .slice LA ln lc, .int .i64 R.armed, .bool R.off]
structure RS (W : World) (ok : Nat → Prop) (R : R3) (BA : Option Addr) (bn bc : Nat) (LA : Option Addr) (ln lc : Nat) (ls : List Wq) : Prop where
  b : Rd W ok 1 BA bn (bs R.b)
  l : Rd W ok 2 LA ln (flat wcell ls)
  d : ∀ y ∈ ls, Rd W ok 1 y.A y.n (bs y.d) ∧ y.n ≤ y.m ∧ y.m ≤ maxLen
  q : ls.map wq = R.l
  bc : bn ≤ bc ∧ bc ≤ maxLen
  lc : ln ≤ lc ∧ lc ≤ maxLen
def RX (W : World) (ok : Nat → Prop) (v : Value) (R : R3) : Prop := ∃ BA bn bc LA ln lc ls, v = rval R BA bn bc LA ln lc ∧ RS W ok R BA bn bc LA ln lc ls
section
variable {W W' : World} {ok ok' : Nat → Prop} {R : R3} {BA LA : Option Addr} {bn bc ln lc : Nat} {ls : List Wq}
theorem RS.keep (h : RS W ok R BA bn bc LA ln lc ls) (hk : ∀ b, ok b → b < W.heap.size → W'.heap[b]? = W.heap[b]?) : RS W' ok R BA bn bc LA ln lc ls := ⟨h.b.keep hk, h.l.keep hk, fun y hy => ⟨(h.d y hy).1.keep hk, (h.d y hy).2⟩, h.q, h.bc, h.lc⟩
theorem RS.below (h : RS W ok R BA bn bc LA ln lc ls) (hb : Below W.heap.size W W') : RS W' ok R BA bn bc LA ln lc ls := h.keep fun b _ hlt => hb.block b hlt
theorem RS.mono (h : RS W ok R BA bn bc LA ln lc ls) (hm : ∀ b, ok b → ok' b) : RS W ok' R BA bn bc LA ln lc ls := ⟨h.b.mono hm, h.l.mono hm, fun y hy => ⟨(h.d y hy).1.mono hm, (h.d y hy).2⟩, h.q, h.bc, h.lc⟩
theorem RS.lt (h : RS W ok R BA bn bc LA ln lc ls) : RS W (fun b => ok b ∧ b < W.heap.size) R BA bn bc LA ln lc ls := ⟨h.b.lt (by omega), h.l.lt (by omega), fun y hy => ⟨(h.d y hy).1.lt (by omega), (h.d y hy).2⟩, h.q, h.bc, h.lc⟩
theorem RS.blen (h : RS W ok R BA bn bc LA ln lc ls) : R.b.length = bn := Rd.blen h.b
theorem RS.llen (h : RS W ok R BA bn bc LA ln lc ls) : ls.length = ln := h.l.flen wcell_len (by omega)
theorem RS.qlen (h : RS W ok R BA bn bc LA ln lc ls) : R.l.length = ln := by rw [← h.q, List.length_map]; exact h.llen
theorem RX.keep {v : Value} (h : RX W ok v R) (hk : ∀ b, ok b → b < W.heap.size → W'.heap[b]? = W.heap[b]?) : RX W' ok v R := by
  obtain ⟨BA, bn, bc, LA, ln, lc, ls, e, h⟩ := h
  exact ⟨BA, bn, bc, LA, ln, lc, ls, e, h.keep hk⟩
theorem RX.below {v : Value} (h : RX W ok v R) (hb : Below W.heap.size W W') : RX W' ok v R := h.keep fun b _ hlt => hb.block b hlt
theorem RX.mono {v : Value} (h : RX W ok v R) (hm : ∀ b, ok b → ok' b) : RX W ok' v R := by
  obtain ⟨BA, bn, bc, LA, ln, lc, ls, e, h⟩ := h
  exact ⟨BA, bn, bc, LA, ln, lc, ls, e, h.mono hm⟩
theorem RX.lt {v : Value} (h : RX W ok v R) : RX W (fun b => ok b ∧ b < W.heap.size) v R := by
  obtain ⟨BA, bn, bc, LA, ln, lc, ls, e, h⟩ := h
  exact ⟨BA, bn, bc, LA, ln, lc, ls, e, h.lt⟩
set_option maxHeartbeats 1600000 in
theorem bad_any (p n : Int) (hp : I64 p) (hn : I64 n) (w : World) (h : R.b.length = bn) (hbn : bn ≤ 4194304) :
    Calls Tryd.prog 32 #[rval R BA bn bc LA ln lc, .int .i64 p, .int .i64 n] w (fun e w' => e = .returned (.int .i64 (R.bad p n)) ∧ Below w.heap.size w w') := by
  unfold R3.bad
  rw [h]
  unfold I64 at hp hn
  obtain ⟨a, hA⟩ : ∃ a, a = R.armed := ⟨_, rfl⟩
  obtain ⟨off, hO⟩ : ∃ off, off = R.off := ⟨_, rfl⟩
  unfold rval
  rw [← hA, ← hO]
  clear hA hO
  have hb1 : Below w.heap.size w (w.alloc (.cells #[.slice BA bn bc, .slice LA ln lc, .int .i64 a, .bool off] 31)) := (Below.refl _ _).alloc (Nat.le_refl _) _
  by_cases h1 : p < 0
  · rw [if_pos (.inl h1)]
    go_enter Tryd.func32, Tryd.ntmps32
    go_wp2_with fail
    go_ret
    exact ⟨rfl, hb1⟩
  by_cases h2 : n < 0
  · rw [if_pos (.inr (.inl h2))]
    go_enter Tryd.func32, Tryd.ntmps32
    go_wp2_with fail
    go_ret
    exact ⟨rfl, hb1⟩
  by_cases h3 : (bn : Int) < p
  · rw [if_pos (.inr (.inr (.inl h3)))]
    go_enter Tryd.func32, Tryd.ntmps32
    go_wp2_with fail
    go_ret
    exact ⟨rfl, hb1⟩
  have s1 : -9223372036854775808 ≤ (bn : Int) - p := by omega
  have s2 : (bn : Int) - p < 9223372036854775808 := by omega
  by_cases h4 : (bn : Int) - p < n
  · rw [if_pos (.inr (.inr (.inr h4)))]
    go_enter Tryd.func32, Tryd.ntmps32
    go_wp2_with fail
    go_ret
    exact ⟨rfl, hb1⟩
  rw [if_neg (by omega)]
  cases off
  · go_enter Tryd.func32, Tryd.ntmps32
    go_wp2_with fail
    go_ret
    exact ⟨rfl, hb1⟩
  · go_enter Tryd.func32, Tryd.ntmps32
    go_wp2_with fail
    go_ret
    exact ⟨rfl, hb1⟩
theorem step3_any (w : World) (h0 : -1 ≤ R.armed) (h1 : R.armed ≤ 9223372036854775807) :
    Calls Tryd.prog 34 #[rval R BA bn bc LA ln lc] w (fun e w' => e = .returned (.tuple #[rval R.stepped BA bn bc LA ln lc, .int .i64 R.stepE]) ∧ Below w.heap.size w w') := by
  unfold R3.stepE
  by_cases ha : R.armed = 0
  · have e2 : R.stepped = { R with off := true, armed := -1 } := by unfold R3.stepped; rw [if_pos ha]
    rw [e2, if_pos ha]
    unfold rval
    rw [ha]
    go_enter Tryd.func34, Tryd.ntmps34
    go_wp2_with fail
    refine bodyPost_ret (by simp [results, Tryd.results34, go_sem]; rfl) rfl ?_
    refine ⟨rfl, ?_⟩
    repeat (first | exact Below.refl _ _ | refine Below.setCell ?_ (by simp) _ | refine Below.alloc ?_ (by first | (simp; done) | (simp; omega)) _)
  · by_cases h2 : 0 < R.armed
    · have e2 : R.stepped = { R with armed := R.armed - 1 } := by unfold R3.stepped; rw [if_neg ha, if_pos h2]
      rw [e2, if_neg ha]
      unfold rval
      go_enter Tryd.func34, Tryd.ntmps34
      go_wp2_with fail
      refine bodyPost_ret (by simp [results, Tryd.results34, go_sem]; rfl) rfl ?_
      refine ⟨rfl, ?_⟩
      repeat (first | exact Below.refl _ _ | refine Below.setCell ?_ (by simp) _ | refine Below.alloc ?_ (by first | (simp; done) | (simp; omega)) _)
    · have e2 : R.stepped = R := by unfold R3.stepped; rw [if_neg ha, if_neg h2]
      have e3 : R.armed = -1 := by omega
      rw [e2, if_neg ha]
      unfold rval
      rw [e3]
      go_enter Tryd.func34, Tryd.ntmps34
      go_wp2_with fail
      refine bodyPost_ret (by simp [results, Tryd.results34, go_sem]; rfl) rfl ?_
      refine ⟨rfl, ?_⟩
      repeat (first | exact Below.refl _ _ | refine Below.setCell ?_ (by simp) _ | refine Below.alloc ?_ (by first | (simp; done) | (simp; omega)) _)
end
def R3Post (W : World) (ok : Nat → Prop) (R' : R3) (k : Int) (e : Ending) (w' : World) : Prop := ∃ v, e = .returned (.tuple #[v, .int .i64 k]) ∧ RX w' (fun b => ok b ∨ W.heap.size ≤ b) v R' ∧ Below W.heap.size W w'
theorem wpList_append_full {P : Program} (w : World) {ops : Array Oper} {rest : List Oper} {o : Oper} {a : Act} {Q : Exit → Act → World → Prop} {s x : Operand} {t e : TypeId} {z : Value} {size bytes : Nat}
    (ht : P.underlying t = some (.slice e)) (he : Elem P e z size bytes) (hzs : z.cells.size = size) (hsz : 0 < size)
    (hgd : o.guard = none) (ho : o.op = .call { callee := .builtin .append, args := #[s, x], argTypes := #[t, t] })
    {ok ok' : Nat → Prop} {A : Option Addr} {n cap : Nat} {olds : List Value} (hs : a.eval s = .slice A n cap) (hr : Rd w ok size A n olds) (hnone : A = none → cap = 0)
    {ad : Addr} {m c : Nat} {news : List Value} (hx : a.eval x = .slice (some ad) m c) (hxr : Rd w ok' size (some ad) m news) (hm : 0 < m) (h1 : ∀ u ∈ news, u.oneCell' = true) (hfull : cap < n + m)
    (hbytes : (n + m) * (bytes + 1) ≤ 140737488355328) {k : Nat} {ys : List Value} (hk : n + m = k) (hys : olds ++ news = ys)
    (h : ∀ A' c' w', w'.ownsRow w.heap.size e size (.slice A' k c') k ys → Below w.heap.size w w' → wpList P ops Q rest (a.put o.dst (.slice A' k c')) w') : wpList P ops Q (o :: rest) a w := by
  refine wpList_plain hgd fun K hK => ?_
  obtain ⟨v', w', hrun, h2, h3⟩ := run_append_full (P := P) w t o.type e z size bytes ht he hzs hsz A n cap olds hr hnone ad m c news hxr hm h1 hfull hbytes
  obtain ⟨A', c', rfl, _⟩ := own_form h2
  subst hk hys
  unfold Oper.wp execOp
  simp only [ho, resolve, invoke, builtin, Sem.run_bind, Sem.run_pure, Result.andThen_ok, List.map_toArray, List.map_cons, List.map_nil, hs, hx, hrun]
  exact hK _ _ (h A' c' w' h2 ((Below.refl _ _).grown h3 (Nat.le_refl _) (fun g hg => by cases hg)))
theorem rw3_elem : Elem Tryd.prog 76 (.agg #[.int .i64 0, .slice none 0 0]) 2 32 := by unfold Elem; kernel_rfl
section
variable {ok : Nat → Prop} {R : R3} {BA LA : Option Addr} {bn bc ln lc : Nat} {ls : List Wq}
theorem RS.re {W : World} {R' : R3} (h : RS W ok R BA bn bc LA ln lc ls) (hb : R'.b = R.b) (hl : R'.l = R.l) : RS W ok R' BA bn bc LA ln lc ls := ⟨by rw [hb]; exact h.b, h.l, h.d, by rw [hl]; exact h.q, h.bc, h.lc⟩
/-- The rows as they were. -/
theorem R3Post.of {w W : World} {R' : R3} {k : Int} (h : RS w ok R BA bn bc LA ln lc ls) (hb : R'.b = R.b) (hl : R'.l = R.l) (hbe : Below w.heap.size w W) : R3Post w ok R' k (.returned (.tuple #[rval R' BA bn bc LA ln lc, .int .i64 k])) W :=
  ⟨_, rfl, ⟨_, _, _, _, _, _, _, rfl, ((h.below hbe).mono fun _ hb => .inl hb).re hb hl⟩, hbe⟩
theorem arm3_any (n : Int) (w : World) (h : RS w ok R BA bn bc LA ln lc ls) :
    Calls Tryd.prog 22 #[rval R BA bn bc LA ln lc, .int .i64 n] w (R3Post w ok (R.arm n).1 (R.arm n).2) := by
  have H := Lib.hid h
  unfold R3.arm
  clear h
  by_cases h0 : n < 0
  · rw [if_pos h0]
    have key := fun W (hb : Below w.heap.size w W) => R3Post.of (R' := R) (k := 1) H.out rfl rfl hb
    have Key := Lib.hid key
    clear key
    unfold rval at Key ⊢
    go_enter Tryd.func22, Tryd.ntmps22
    go_wp2_with fail
    refine bodyPost_ret (by simp [results, Tryd.results22, go_sem]; rfl) rfl ?_
    refine Key.out _ ?_
    repeat (first | exact Below.refl _ _ | refine Below.setCell ?_ (by simp) _ | refine Below.alloc ?_ (by first | (simp; done) | (simp; omega)) _)
  · rw [if_neg h0]
    have key := fun W (hb : Below w.heap.size w W) => R3Post.of (R' := { R with armed := n }) (k := 0) H.out rfl rfl hb
    have Key := Lib.hid key
    clear key
    unfold rval at Key ⊢
    go_enter Tryd.func22, Tryd.ntmps22
    go_wp2_with fail
    refine bodyPost_ret (by simp [results, Tryd.results22, go_sem]; rfl) rfl ?_
    refine Key.out _ ?_
    repeat (first | exact Below.refl _ _ | refine Below.setCell ?_ (by simp) _ | refine Below.alloc ?_ (by first | (simp; done) | (simp; omega)) _)
end
end Go.Proofs.YtefhkhocbcnbcaaDoor
