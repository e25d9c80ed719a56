/- The document's net: what it is in memory; its place, cut, Find. -/
import Derived.Test.YtckpinnnmafdgaaDoorNilN
import Derived.Test.YtckpinnnmafdgaaDoorArith
import Derived.BigQuiet
namespace Go.Proofs.YtckpinnnmafdgaaDoor
open Go.RowKit
set_option maxRecDepth 100000
set_option linter.unusedVariables false
set_option linter.unusedSimpArgs false
/-- A pair, as its cells are. -/
structure Pr where
  a : Int
  b : Int
def prc (x : Pr) : List Value := [.int .i64 x.a, .int .i64 x.b]
theorem prc_len (x : Pr) : (prc x).length = 2 := rfl
theorem pr_cells {w : World} {ok : Nat → Prop} {n : Nat} {A : Option Addr} {l : List Pr} (h : Rd w ok 2 A n (flat prc l)) {j : Nat} (hj : j < n) : ∃ b o x, A = some ⟨b, o, none⟩ ∧ ok b ∧ b < w.heap.size ∧ l[j]? = some x ∧
    w.cell? ⟨b, o + j * 2, none⟩ = some (.int .i64 x.a) ∧ w.cell? ⟨b, o + j * 2 + 1, none⟩ = some (.int .i64 x.b) := by
  obtain ⟨b, o, x, hA, hb, hlt, hx, hc⟩ := h.fat prc_len (by omega) hj
  exact ⟨b, o, x, hA, hb, hlt, hx, hc 0 _ rfl, hc 1 _ rfl⟩
/-- The document's net. -/
structure Rn where
  lim : Int
  last : Int
  LA : Option Addr
  ln : Nat
  lc : Nat
  l : List Ic
  CA : Option Addr
  cn : Nat
  cc : Nat
  cuts : List Pr
def rnC (r : Rn) : Array Value := #[.int .i64 r.lim, .int .i64 r.last, .slice r.LA r.ln r.lc, .slice r.CA r.cn r.cc]
def rnA (r : Rn) : Value := .agg #[.int .i64 r.lim, .int .i64 r.last, .slice r.LA r.ln r.lc, .slice r.CA r.cn r.cc]
structure RN (W : World) (ok : Nat → Prop) (r : Rn) : Prop where
  it : Rd W ok 4 r.LA r.ln (flat icell r.l)
  dt : ∀ x ∈ r.l, Rd W ok 1 x.A x.n (bs x.d) ∧ x.n ≤ 5000
  ct : Rd W ok 2 r.CA r.cn (flat prc r.cuts)
  c1 : r.ln ≤ r.lc ∧ r.lc ≤ maxLen
  n1 : r.ln ≤ 4096
  n2 : r.cn ≤ 4096
section
variable {W W' : World} {ok ok' : Nat → Prop} {r : Rn}
theorem RN.below (h : RN W ok r) (hb : Below W.heap.size W W') : RN W' ok r := ⟨h.it.below hb, fun x hx => ⟨(h.dt x hx).1.below hb, (h.dt x hx).2⟩, h.ct.below hb, h.c1, h.n1, h.n2⟩
theorem RN.mono (h : RN W ok r) (hm : ∀ b, ok b → ok' b) : RN W ok' r := ⟨h.it.mono hm, fun x hx => ⟨(h.dt x hx).1.mono hm, (h.dt x hx).2⟩, h.ct.mono hm, h.c1, h.n1, h.n2⟩
theorem RN.keep (h : RN W ok r) (hk : ∀ b, ok b → b < W.heap.size → W'.heap[b]? = W.heap[b]?) : RN W' ok r := ⟨h.it.keep hk, fun x hx => ⟨(h.dt x hx).1.keep hk, (h.dt x hx).2⟩, h.ct.keep hk, h.c1, h.n1, h.n2⟩
theorem RN.alloc (h : RN W ok r) (o : Obj) : RN (W.alloc o) ok r := h.below ((Below.refl _ _).alloc (Nat.le_refl _) o)
theorem RN.drew (h : RN W ok r) : RN W.drew ok r := h.below (Below.refl _ _).drew
theorem RN.lt (h : RN W ok r) : RN W (fun b => ok b ∧ b < W.heap.size) r := ⟨h.it.lt (by omega), fun x hx => ⟨(h.dt x hx).1.lt (by omega), (h.dt x hx).2⟩, h.ct.lt (by omega), h.c1, h.n1, h.n2⟩
theorem RN.len (h : RN W ok r) : r.l.length = r.ln := h.it.flen icell_len (by omega)
theorem RN.clen (h : RN W ok r) : r.cuts.length = r.cn := h.ct.flen prc_len (by omega)
theorem RN.any (h : RN W ok r) : RN W T r := h.mono fun _ _ => trivial
end
theorem placeR_any (z : Int) (w : World) : Calls Tryd.prog 31 #[.int .i64 z] w fun e w' => e = .returned (.bool (okP z)) ∧ w = w' := by
  by_cases h1 : 0 < z
  · by_cases h2 : z < 1001
    · have e : okP z = true := okP_iff.2 ⟨by omega, by omega⟩
      rw [e]
      clear e
      go_enter Tryd.func31, Tryd.ntmps31
      go_wp2_with fail
      go_ret
      exact ⟨rfl, rfl⟩
    · have e : okP z = false := by
        rcases hq : okP z with _ | _
        · rfl
        · have := okP_iff.1 hq; omega
      rw [e]
      clear e
      have hd : decide (z < 1001) = false := by simpa using h2
      go_enter Tryd.func31, Tryd.ntmps31
      go_wp2_with fail
      go_ret
      exact ⟨rfl, rfl⟩
  · have e : okP z = false := by
      rcases hq : okP z with _ | _
      · rfl
      · have := okP_iff.1 hq; omega
    rw [e]
    clear e
    have hd : decide (0 < z) = false := by simpa using h1
    go_enter Tryd.func31, Tryd.ntmps31
    go_wp2_with fail
    go_ret
    exact ⟨rfl, rfl⟩
/-- Is the way between two cut? -/
def onW (a b : Int) (x : Pr) : Bool := (x.a == a && x.b == b) || (x.a == b && x.b == a)
def cutB (l : List Pr) (a b : Int) : Bool := l.any (onW a b)
theorem int_info : ∃ i, Tryd.prog.info? 3 = some i := by
  obtain ⟨i, hi, -⟩ := info_parts (show (Tryd.prog.info? 3).map (fun i => (i.zero, i.size, i.bytes)) = some (some (.int .i64 0), 1, 8) by kernel_rfl)
  exact ⟨i, hi⟩
theorem pair_eq (a b c d : Int) (W : World) : (Op.equalIn 10000 66 (.agg #[.int .i64 a, .int .i64 b]) (.agg #[.int .i64 c, .int .i64 d])).run Tryd.prog W = .ok (a == c && b == d) W := by
  obtain ⟨i, hi⟩ := int_info
  have hc : Tryd.prog.cellsOf 3 = 1 := by kernel_rfl
  have h := run_equalIn_array (P := Tryd.prog) (w := W) 9999 #[.int .i64 a, .int .i64 b] #[.int .i64 c, .int .i64 d] Tryd.underlying66 hi
  have e : List.range 2 = [0, 1] := rfl
  refine h.trans ?_
  rw [hc, e]
  have hu := Tryd.underlying3
  have p1 : ∀ (x y : Int) W, (part 3 #[.int .i64 x, .int .i64 y] 0).run Tryd.prog W = .ok (.int .i64 x) W := fun x y W => by kernel_rfl
  have p2 : ∀ (x y : Int) W, (part 3 #[.int .i64 x, .int .i64 y] 1).run Tryd.prog W = .ok (.int .i64 y) W := fun x y W => by kernel_rfl
  have q1 : ∀ (x y : Int) W, (Op.equalIn 9999 3 (.int .i64 x) (.int .i64 y)).run Tryd.prog W = .ok (x == y) W := fun x y W => run_equalIn_int _ 9998 _ _ _ _ _ hu
  have r1 : (Op.eqItems 9999 3 1 #[.int .i64 a, .int .i64 b] #[.int .i64 c, .int .i64 d] [1]).run Tryd.prog W = .ok (b == d) W := by
    rw [Op.eqItems]
    simp only [Sem.run_bind]
    rw [p2, Result.andThen_ok, p2, Result.andThen_ok, q1, Result.andThen_ok]
    rcases Bool.eq_false_or_eq_true (b == d) with h | h <;> rw [h] <;> rfl
  rw [Op.eqItems]
  simp only [Sem.run_bind]
  rw [p1, Result.andThen_ok, p1, Result.andThen_ok, q1, Result.andThen_ok]
  rcases Bool.eq_false_or_eq_true (a == c) with h | h <;> rw [h]
  · exact r1
  · rfl
theorem cutB_step {l : List Pr} {j : Nat} {x : Pr} (a b : Int) (h : l[j]? = some x) : cutB (l.drop j) a b = (onW a b x || cutB (l.drop (j + 1)) a b) := by
  obtain ⟨hj, he⟩ := List.getElem?_eq_some_iff.1 h
  rw [List.drop_eq_getElem_cons hj, he]
  rfl
set_option maxHeartbeats 1600000 in
theorem cutR_any (r : Rn) (a b : Int) (w : World) {ok : Nat → Prop} (hr : RN w ok r) : Calls Tryd.prog 32 #[rnA r, .int .i64 a, .int .i64 b] w fun e w' => e = .returned (.bool (cutB r.cuts a b)) ∧ Below w.heap.size w w' := by
  have hc := hr.ct
  have hl := hr.clen
  have hn := hr.n2
  obtain ⟨lim, last, LA, ln, lc, l, CA, cn, cc, cuts⟩ := r
  unfold rnA
  dsimp only at hc hl hn ⊢
  have Hc := Lib.hid hc
  have Hl := Lib.hid hl
  clear hr hc hl
  go_enter Tryd.func32, Tryd.ntmps32
  go_wp2_with fail
  go_loop [7] (fun i => ∃ k : Nat, k ≤ cn ∧ i = .int .i64 k ∧ ∀ x ∈ cuts.take k, onW a b x = false) (fun i => cn - (intOf i).toNat)
  case atStart => exact ⟨0, Nat.zero_le _, rfl, by simp⟩
  case round =>
    obtain ⟨k, hk, rfl, hno⟩ := hrel
    have Hno := Lib.hid hno
    clear hno
    by_cases hlt : k < cn
    · have hrd := Hc.out.below (w' := w.alloc (.cells #[.int .i64 lim, .int .i64 last, .slice LA ln lc, .slice CA cn cc] 46)) ((Below.refl _ _).alloc (Nat.le_refl _) _)
      obtain ⟨bb, o, x, rfl, -, -, hx, c0, c1⟩ := pr_cells hrd hlt
      have hsn : cuts.take (k + 1) = cuts.take k ++ [x] := by
        obtain ⟨h1, h2⟩ := List.getElem?_eq_some_iff.1 hx
        rw [List.take_succ_eq_append_getElem h1, h2]
      have he1 := pair_eq x.a x.b a b
      have he2 := pair_eq x.a x.b b a
      obtain ⟨q1, hq1⟩ : ∃ q1, q1 = (x.a == a && x.b == b) := ⟨_, rfl⟩
      obtain ⟨q2, hq2⟩ : ∃ q2, q2 = (x.a == b && x.b == a) := ⟨_, rfl⟩
      rw [← hq1] at he1
      rw [← hq2] at he2
      have hon : onW a b x = (q1 || q2) := by unfold onW; rw [hq1, hq2]
      have hcut : (q1 || q2) = true → cutB cuts a b = true := fun h => by
        unfold cutB
        rw [List.any_eq_true]
        exact ⟨x, List.mem_of_getElem? hx, hon.trans h⟩
      have Hon := Lib.hid hon
      have Hcut := Lib.hid hcut
      have Hsn := Lib.hid hsn
      have hkI : (k : Int) < cn := by omega
      clear hrd hsn hx hq1 hq2 hon hcut
      rcases Bool.eq_false_or_eq_true q1 with rfl | rfl
      · go_wp2_with fail
        go_ret
        exact ⟨by rw [Hcut.out rfl]; rfl, (Below.refl _ _).alloc (Nat.le_refl _) _⟩
      rcases Bool.eq_false_or_eq_true q2 with rfl | rfl
      · go_wp2_with fail
        go_ret
        exact ⟨by rw [Hcut.out rfl]; rfl, (Below.refl _ _).alloc (Nat.le_refl _) _⟩
      · go_wp2_with fail
        go_round
        case rel =>
          refine ⟨k + 1, by omega, by go_num, fun y hy => ?_⟩
          rw [Hsn.out] at hy
          rcases List.mem_append.1 hy with hy | hy
          · exact Hno.out y hy
          · obtain rfl := List.mem_singleton.1 hy
            exact Hon.out
        case measure => simp [intOf]; omega
    · have hd : decide ((k : Int) < (cn : Int)) = false := by simp; omega
      go_wp2_with fail
      go_ret
      refine ⟨?_, (Below.refl _ _).alloc (Nat.le_refl _) _⟩
      have hno := Hno.out
      rw [List.take_of_length_le (by have := Hl.out; omega)] at hno
      have : cutB cuts a b = false := by
        unfold cutB
        rw [List.any_eq_false]
        exact fun x hx => by rw [hno x hx]; decide
      rw [this]; rfl
set_option maxHeartbeats 1600000 in
theorem findR_any (r : Rn) (z : Int) (w : World) {ok : Nat → Prop} (hr : RN w ok r) : Calls Tryd.prog 30 #[rnA r, .int .i64 z] w (AtPost w (byId z) r.l) := by
  have hc := hr.it
  have hl := hr.len
  have hn := hr.n1
  obtain ⟨lim, last, LA, ln, lc, l, CA, cn, cc, cuts⟩ := r
  unfold rnA
  dsimp only at hc hl hn ⊢
  have Hc := Lib.hid hc
  have Hl := Lib.hid hl
  clear hr hc hl
  go_enter Tryd.func30, Tryd.ntmps30
  go_wp2_with fail
  go_loop [5] (fun i => ∃ k : Nat, k ≤ ln ∧ i = .int .i64 k ∧ ∀ x ∈ l.take k, byId z x = false) (fun i => ln - (intOf i).toNat)
  case atStart => exact ⟨0, Nat.zero_le _, rfl, by simp⟩
  case round =>
    obtain ⟨k, hk, rfl, hno⟩ := hrel
    have Hno := Lib.hid hno
    clear hno
    by_cases hlt : k < ln
    · have hrd := Hc.out.below (w' := w.alloc (.cells #[.int .i64 lim, .int .i64 last, .slice LA ln lc, .slice CA cn cc] 46)) ((Below.refl _ _).alloc (Nat.le_refl _) _)
      obtain ⟨bb, o, x, rfl, -, -, hx, c0, -, -, -⟩ := ic_cells hrd hlt
      have hsn : l.take (k + 1) = l.take k ++ [x] := by
        obtain ⟨h1, h2⟩ := List.getElem?_eq_some_iff.1 hx
        rw [List.take_succ_eq_append_getElem h1, h2]
      have Hsn := Lib.hid hsn
      have Hx := Lib.hid hx
      have hkI : (k : Int) < ln := by omega
      clear hrd hsn hx
      obtain ⟨xid, xfr, xto, xA, xn, xc, xd⟩ := x
      dsimp only at c0
      by_cases hz : xid = z
      · have hby : byId z ⟨xid, xfr, xto, xA, xn, xc, xd⟩ = true := by unfold byId; simp [hz]
        have Hby := Lib.hid hby
        have hd : (xid == z) = true := by simpa using hz
        clear hby hz
        go_wp2_with fail
        go_ret
        exact ⟨_, rfl, .inl ⟨k, _, rfl, Hx.out, Hby.out, Hno.out⟩, (Below.refl _ _).alloc (Nat.le_refl _) _⟩
      · have hby : byId z ⟨xid, xfr, xto, xA, xn, xc, xd⟩ = false := by unfold byId; simpa using hz
        have Hby := Lib.hid hby
        have hd : (xid == z) = false := by simpa using hz
        clear hby hz
        go_wp2_with fail
        go_round
        case rel =>
          refine ⟨k + 1, by omega, by go_num, fun y hy => ?_⟩
          rw [Hsn.out] at hy
          rcases List.mem_append.1 hy with hy | hy
          · exact Hno.out y hy
          · obtain rfl := List.mem_singleton.1 hy
            exact Hby.out
        case measure => simp [intOf]; omega
    · have hd : decide ((k : Int) < (ln : Int)) = false := by simp; omega
      go_wp2_with fail
      go_ret
      refine ⟨_, rfl, .inr ⟨rfl, ?_⟩, (Below.refl _ _).alloc (Nat.le_refl _) _⟩
      have hno := Hno.out
      rwa [List.take_of_length_le (by have := Hl.out; omega)] at hno
end Go.Proofs.YtckpinnnmafdgaaDoor
