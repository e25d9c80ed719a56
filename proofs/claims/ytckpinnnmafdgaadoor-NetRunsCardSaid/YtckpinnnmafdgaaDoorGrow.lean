/- append onto a slice that is full (s[:n:n]): a new row; 's[:h:m]'. -/
import Derived.Test.YtckpinnnmafdgaaDoorBox
import Derived.ArgAppend
namespace Go.Proofs.YtckpinnnmafdgaaDoor
open Go.RowKit
set_option linter.unusedVariables false
set_option linter.unusedSimpArgs false
theorem run_slice_hm' {P : Program} (t : TypeId) {e : TypeId} {size : Nat} (ht : P.underlying t = some (.slice e)) (hz : (P.info? e).map (·.size) = some size) (a : Option Addr) (n c h m : Nat) (h2 : h ≤ m) (h3 : m ≤ c) (w : World) :
    (Instr.sliceAt t (.slice a n c) none (some (.int .i64 (h : Int))) (some (.int .i64 (m : Int)))).run P w = .ok (.slice (if m = 0 then a else a.map (·.add (0 * size))) h m) w := by
  have ht' := elem_of t ht
  rw [run_sliceAt_slice (P := P) (w := w) t _ _ _ _ ht', run_slice_hm (P := P) (w := w) (t := t) (a := a) (len := n) (cap := c) ht' .i64 .i64 _ _ (by omega) (by omega) (by omega), sizeOf_elem t ht hz]
  simp [sliced]
theorem Rd.hm {w : World} {ok : Nat → Prop} {size n : Nat} {A : Option Addr} {xs : List Value} (h : Rd w ok size A n xs) (m : Nat) : Rd w ok size (if m = 0 then A else A.map (·.add (0 * size))) n xs := by
  split
  · exact h
  · have e : A.map (·.add (0 * size)) = A := by cases A <;> simp [Addr.add]
    rw [e]
    exact h
theorem run_append_full {P : Program} (w : World) (t ty e : TypeId) (z : Value) (size bytes : Nat) (ht : P.underlying t = some (.slice e)) (he : Elem P e z size bytes) (hzs : z.cells.size = size) (hsz : 0 < size)
    {ok ok' : Nat → Prop} (A : Option Addr) (n cap : Nat) (olds : List Value) (hr : Rd w ok size A n olds) (hnone : A = none → cap = 0)
    (ad : Addr) (m c : Nat) (news : List Value) (hx : Rd w ok' size (some ad) m news) (hm : 0 < m) (h1 : ∀ u ∈ news, u.oneCell' = true) (hfull : cap < n + m) (hbytes : (n + m) * (bytes + 1) ≤ 140737488355328) :
    ∃ v' w', (Builtin.append_ #[t, t] ty #[.slice A n cap, .slice (some ad) m c]).run P w = .ok v' w' ∧ w'.ownsRow w.heap.size e size v' (n + m) (olds ++ news) ∧ w.grownBy w' none := by
  obtain ⟨i, hi, hz, hsize, hby⟩ := info_parts he
  have h63 : n + m ≤ maxLen := by
    have : n + m ≤ (n + m) * (bytes + 1) := Nat.le_mul_of_pos_right _ (by omega)
    simp only [maxLen]; omega
  have hbytes' : (n + m) * bytes ≤ 140737488355328 := Nat.le_trans (Nat.mul_le_mul_left _ (by omega)) hbytes
  have hcn : ∀ j u, news[j]? = some u → w.cell? (ad.add j) = some u := by
    obtain ⟨ad', e1, _, hc⟩ := hx.2 hm
    injection e1 with e1
    subst e1
    exact hc
  cases A with
  | some b =>
    have hco : ∀ j u, olds[j]? = some u → w.cell? (b.add j) = some u := by
      intro j u hu
      rcases Nat.eq_zero_or_pos n with h0 | h0
      · subst h0
        rw [hr.nil_of_zero] at hu
        simp at hu
      · obtain ⟨b', e1, _, hc⟩ := hr.2 h0
        injection e1 with e1
        subst e1
        exact hc j u hu
    exact run_append_arg_grows (P := P) w t ty e i z size bytes ht hi hz hsize hby hzs hsz b n cap olds hr.1 hco ad m c news hx.1 hcn hfull h63 hbytes'
  | none =>
    obtain ⟨rfl, rfl⟩ := hr.nil_of_none
    have := hnone rfl
    subst this
    obtain ⟨v', w', hrun, h2, h3, h4⟩ := run_append_any (P := P) w w.heap.size t ty e z size bytes ht he hzs hsz (.slice none 0 0) 0 [] (World.ownsRow_nil w _ e size) ok' (some ad) m c news hx h1 hbytes (Nat.le_refl _)
    exact ⟨v', w', hrun, h2, h3⟩
theorem step_append_full {P : Program} (w : World) {ops : Array Oper} {o : Oper} {a : Act} {K : Act → World → Prop} {Q : Exit → Act → World → Prop} {E : Prop} {s x : Operand} {t e : TypeId} {z : Value} {size bytes : Nat}
    (ht : P.underlying t = some (.slice e)) (he : Elem P e z size bytes) (hzs : z.cells.size = size) (hsz : 0 < size)
    (hgd : o.guard = none) (ho : o.op = .call { callee := .builtin .append, args := #[s, x], argTypes := #[t, t] })
    {ok ok' : Nat → Prop} {A : Option Addr} {n cap : Nat} {olds : List Value} (hs : a.eval s = .slice A n cap) (hr : Rd w ok size A n olds) (hnone : A = none → cap = 0)
    {ad : Addr} {m c : Nat} {news : List Value} (hx : a.eval x = .slice (some ad) m c) (hxr : Rd w ok' size (some ad) m news) (hm : 0 < m) (h1 : ∀ u ∈ news, u.oneCell' = true) (hfull : cap < n + m)
    (hbytes : (n + m) * (bytes + 1) ≤ 140737488355328) {k : Nat} {ys : List Value} (hk : n + m = k) (hys : olds ++ news = ys)
    (h : ∀ A' c' w', w'.ownsRow w.heap.size e size (.slice A' k c') k ys → Below w.heap.size w w' → K (a.put o.dst (.slice A' k c')) w') :
    if Region.wanted o (yielded ops a.tmps) = true then Oper.wp P o a w K Q else E := by
  have hw : Region.wanted o (yielded ops a.tmps) = true := by simp [Region.wanted, hgd]
  rw [if_pos hw]
  obtain ⟨v', w', hrun, h2, h3⟩ := run_append_full (P := P) w t o.type e z size bytes ht he hzs hsz A n cap olds hr hnone ad m c news hxr hm h1 hfull hbytes
  obtain ⟨A', c', rfl, _⟩ := own_form h2
  subst hk hys
  unfold Oper.wp execOp
  simp only [ho, resolve, invoke, builtin, Sem.run_bind, Sem.run_pure, Result.andThen_ok, List.map_toArray, List.map_cons, List.map_nil, hs, hx, hrun]
  exact h A' c' w' h2 ((Below.refl _ _).grown h3 (Nat.le_refl _) (fun g hg => by cases hg))
end Go.Proofs.YtckpinnnmafdgaaDoor
