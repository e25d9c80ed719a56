/- slices.Insert at members: one more at its place. -/
import Derived.Test.YtedcjakgdoiomaaDoorDelC
import Derived.Lib.AppendZerosOnto
import Derived.Lib.Overlaps
import Derived.Lib.JoinLaws
import Derived.Laws.Externs
import Derived.Laws.IdiomCopy
import Derived.Shelf.RegionOpenPlain
namespace Go.Proofs.YtedcjakgdoiomaaDoor
open Go.RowKit Go.Lib
set_option linter.unusedVariables false
set_option linter.unusedSimpArgs false
set_option maxRecDepth 100000
theorem append_as {P : Program} {t t' e : TypeId} (ht : P.underlying t = some (.slice e)) (ht' : P.underlying t' = some (.slice e)) (ty : TypeId) (args : Array Value) (w : World) :
    (Builtin.append_ #[t, t'] ty args).run P w = (Builtin.append_ #[t, t] ty args).run P w := by
  unfold Builtin.append_
  rcases h0 : args[0]? with _ | s
  · simp [h0]
  · rcases h1 : args[1]? with _ | x
    · simp [h0, h1]
    · cases s <;> simp [run_underlying ht, run_underlying ht']
theorem wpList_append_as {P : Program} (w : World) {ops : Array Oper} {rest : List Oper} {o : Oper} {a : Act} {Q : Exit → Act → World → Prop} {s x : Operand} {t t' e : TypeId} {z : Value} {size bytes : Nat}
    (ht : P.underlying t = some (.slice e)) (ht' : P.underlying t' = some (.slice e)) (he : Elem P e z size bytes) (hzs : z.cells.size = size) (hsz : 0 < size)
    (hgd : o.guard = none) (ho : o.op = .call { callee := .builtin .append, args := #[s, x], argTypes := #[t, t'] })
    {base : Nat} {A0 : Option Addr} {n c0 : Nat} {xs : List Value} (hs : a.eval s = .slice A0 n c0) (hown : w.ownsRow base e size (.slice A0 n c0) n xs)
    {ok : Nat → Prop} {A : Option Addr} {m c : Nat} {news : List Value} (hx : a.eval x = .slice A m c) (hr : Rd w ok size A m news) (h1 : ∀ u ∈ news, u.oneCell' = true)
    (hbytes : (n + m) * (bytes + 1) ≤ 140737488355328) (hbase : base ≤ w.heap.size) {k : Nat} {ys : List Value} (hk : n + m = k) (hys : xs ++ news = ys)
    (h : ∀ A' c' w', w'.ownsRow base e size (.slice A' k c') k ys → w.grownBy w' (A0.map (·.block)) → (A'.map (·.block) = A0.map (·.block) ∨ A'.map (·.block) = some w.heap.size) → wpList P ops Q rest (a.put o.dst (.slice A' k c')) w') : wpList P ops Q (o :: rest) a w := by
  refine wpList_plain hgd fun K hK => ?_
  obtain ⟨v', w', hrun, h2, h3, h4⟩ := run_append_any (P := P) w base t o.type e z size bytes ht he hzs hsz _ n xs hown ok A m c news hr h1 hbytes hbase
  rw [← append_as ht ht'] at hrun
  obtain ⟨A', c', rfl, _⟩ := own_form h2
  subst hk hys
  unfold Oper.wp execOp
  simp only [ho, resolve, invoke, builtin, Sem.run_bind, Sem.run_pure, Result.andThen_ok, List.map_toArray, List.map_cons, List.map_nil, hs, hx, hrun]
  have e1 : ∀ (B : Option Addr) (p q : Nat), (Value.slice B p q).ownBlock = B.map (·.block) := fun B p q => by cases B <;> rfl
  rw [e1] at h3 h4
  rw [e1] at h4
  exact hK _ _ (h A' c' w' h2 h3 h4)
theorem wp_copy_at {P : Program} (w : World) {o : Oper} {a : Act} {K : Act → World → Prop} {Q : Exit → Act → World → Prop} (d s : Operand) (t t' : TypeId)
    (ho : o.op = .call { callee := .builtin .copy, args := #[d, s], argTypes := #[t, t'] }) (v u : Value) (hd : a.eval d = v) (hs : a.eval s = u) {v' : Value} {w' : World}
    (hr : (Builtin.copy_ #[t, t'] o.type #[v, u]).run P w = .ok v' w') (h : K (a.put o.dst v') w') : o.wp P a w K Q := by
  unfold Oper.wp execOp
  simp only [ho, resolve, invoke, builtin, Sem.run_bind, Sem.run_pure, Result.andThen_ok, List.map_toArray, List.map_cons, List.map_nil, hd, hs, hr]
  exact h
theorem wpList_copy_at {P : Program} (w : World) {ops : Array Oper} {rest : List Oper} {o : Oper} {a : Act} {Q : Exit → Act → World → Prop} (hgd : o.guard = none) (d s : Operand) (t t' : TypeId)
    (ho : o.op = .call { callee := .builtin .copy, args := #[d, s], argTypes := #[t, t'] }) (v u : Value) (hd : a.eval d = v) (hs : a.eval s = u) {v' : Value} {w' : World}
    (hr : (Builtin.copy_ #[t, t'] o.type #[v, u]).run P w = .ok v' w') (h : wpList P ops Q rest (a.put o.dst v') w') : wpList P ops Q (o :: rest) a w :=
  wpList_plain hgd fun _ hK => wp_copy_at w d s t t' ho v u hd hs hr (hK _ _ h)
theorem step_copy_at {P : Program} {ops : Array Oper} {o : Oper} {a : Act} {w : World} {K : Act → World → Prop} {Q : Exit → Act → World → Prop} {E : Prop}
    (hg : o.guard = none) (d x : Operand) (dT sT : TypeId) (hop : o.op = Op.call { callee := Callee.builtin Builtin.copy, args := #[d, x], argTypes := #[dT, sT] })
    (v u : Value) (hd : a.eval d = v) (hx : a.eval x = u) {v' : Value} {w' : World} (hr : (Builtin.copy_ #[dT, sT] o.type #[v, u]).run P w = .ok v' w') (hK : K (a.put o.dst v') w') :
    if Region.wanted o (yielded ops a.tmps) = true then Oper.wp P o a w K Q else E := by
  have hw : Region.wanted o (yielded ops a.tmps) = true := by simp [Region.wanted, hg]
  rw [if_pos hw]
  exact wp_copy_at w d x dT sT hop v u hd hx hr hK
/-- A row with room is a longer row. -/
theorem own_more {w : World} {B : Nat} {e : TypeId} {g n c : Nat} {xs : List Value} (h : w.ownsRow B e 1 (.slice (some ⟨g, 0, none⟩) n c) n xs) (hc : n + 1 ≤ c) : ∃ y, w.ownsRow B e 1 (.slice (some ⟨g, 0, none⟩) (n + 1) c) (n + 1) (xs ++ [y]) := by
  rcases h.2 with ⟨h', _⟩ | ⟨g', cap', cur, h', hb, hg, hnc, hcm, hcs, htake⟩
  · simp at h'
  · simp only [Value.slice.injEq, Option.some.injEq, Addr.mk.injEq, and_true, true_and] at h'
    obtain ⟨rfl, rfl⟩ := h'
    have hl : n < cur.toList.length := by simp; omega
    refine ⟨cur.toList[n]'hl, by have := h.1; simp [this], .inr ⟨g, c, cur, rfl, hb, hg, by omega, hcm, hcs, ?_⟩⟩
    rw [Nat.mul_one] at htake
    rw [Nat.mul_one, List.take_add_one, htake, List.getElem?_eq_getElem hl]
    rfl
def InsPost (W : World) (B : Nat) (row : Option Nat) (n : Nat) (ys : List Value) (e : Ending) (w' : World) : Prop :=
  ∃ A' c', e = .returned (.slice A' (n + 1) c') ∧ w'.ownsRow B 3 1 (.slice A' (n + 1) c') (n + 1) ys ∧ W.grownBy w' row
theorem insC_end (B : Nat) (A : Option Addr) (n c : Nat) (xs : List Value) (v : Int) (vb : Nat) (w : World) (hown : w.ownsRow B 3 1 (.slice A n c) n xs) (hB : B ≤ w.heap.size) (hv : Bx w vb #[.int .i64 v]) (hn : n ≤ 1000000) :
    Calls Tryd.prog 20 #[.slice A n c, .int .i64 (n : Nat), .slice (some ⟨vb, 0, none⟩) 1 1] w (InsPost w B (A.map (·.block)) n (xs ++ [.int .i64 v])) := by
  have hrv : Rd w T 1 (some ⟨vb, 0, none⟩) 1 [.int .i64 v] := ⟨rfl, fun _ => ⟨_, rfl, trivial, fun j u hj => by
    rcases j with _ | j
    · simp at hj; subst hj; exact hv.c 0
    · simp at hj⟩⟩
  have hnc := own_le hown
  clear hv
  go_enter Tryd.func20, Tryd.ntmps20
  go_wp2_with (at_builtin; refine wpList_append_as _ Tryd.underlying24 Tryd.underlying22 int_elem rfl (by omega) rfl rfl rfl hown rfl hrv (by intro u hu; simp only [List.mem_cons, List.not_mem_nil, or_false] at hu; subst hu; rfl) (by omega) hB rfl rfl ?_; intro A1 c1 w1 hown1 hg1 hat1)
  all_goals
    go_ret
    exact ⟨_, _, rfl, hown1, hg1⟩
set_option maxHeartbeats 4000000 in
theorem insC_shift (B g n c i : Nat) (xs : List Value) (v : Int) (vb : Nat) (w : World) (hown : w.ownsRow B 3 1 (.slice (some ⟨g, 0, none⟩) n c) n xs) (hv : Bx w vb #[.int .i64 v]) (hvg : vb ≠ g) (hi : i < n) (hc : n + 1 ≤ c) (h1 : ∀ u ∈ xs, u.oneCell' = true) (hn : n ≤ 1000000) :
    Calls Tryd.prog 20 #[.slice (some ⟨g, 0, none⟩) n c, .int .i64 (i : Nat), .slice (some ⟨vb, 0, none⟩) 1 1] w (InsPost w B (some g) n (xs.take i ++ .int .i64 v :: xs.drop i)) := by
  obtain ⟨y, hm⟩ := own_more hown hc
  have hxl : xs.length = n := by have := hown.1; omega
  have hc63 : c ≤ 9223372036854775807 := by
    rcases hown.2 with ⟨h', h''⟩ | ⟨g', cap, _, h', _, _, h2, h3, _⟩
    · omega
    · injection h' with _ _ h'
      subst h'
      simpa [maxLen] using h3
  have ha := own_setCells (w := w) (xs := xs) (xs.drop i) w.drew _ (i + 1) hm.drew
  have hb := own_setCells (w := w) (xs := xs) [.int .i64 v] (w.drew.setCells g (i + 1) (xs.drop i)) _ i ha.1
  have hend : lays (lays (xs ++ [y]) (i + 1) (xs.drop i)) i [.int .i64 v] = xs.take i ++ .int .i64 v :: xs.drop i := by
    rw [lays_eq [.int .i64 v] _ _ (by rw [lays_length]; simp; omega), lays_take _ _ _ _ (by omega), lays_eq _ _ _ (by simp; omega)]
    have e1 : (xs ++ [y]).drop (i + 1 + (xs.drop i).length) = [] := List.drop_of_length_le (by simp; omega)
    have e2 : ((xs ++ [y]).take (i + 1)).length = i + 1 := by simp; omega
    rw [e1, List.append_nil, List.drop_append, List.drop_of_length_le (by rw [e2]; simp), e2, List.take_append_of_le_length (by omega)]
    simp
  rw [hend] at hb
  have hfin : (((w.drew.setCells g (i + 1) (xs.drop i)).setCells g i [.int .i64 v]).ownsRow B 3 1 (.slice (some ⟨g, 0, none⟩) (n + 1) c) (n + 1) (xs.take i ++ .int .i64 v :: xs.drop i)) ∧ w.grownBy ((w.drew.setCells g (i + 1) (xs.drop i)).setCells g i [.int .i64 v]) (some g) :=
    ⟨hb.1, hb.2.os.trans ha.2.os, hb.2.tape.trans ha.2.tape, hb.2.output.trans ha.2.output, Nat.le_trans ha.2.size hb.2.size, fun k hk hne => (hb.2.block k (Nat.lt_of_lt_of_le hk ha.2.size) hne).trans (ha.2.block k hk hne)⟩
  obtain ⟨tv, hvh⟩ := hv.hp
  obtain ⟨cur, hgh⟩ : ∃ cur : Array Value, w.heap[g]? = some (.cells cur 3 (0, 0)) ∧ cur.size = c := by
    rcases hown.2 with ⟨h', h''⟩ | ⟨g', cap, cur, h', _, h1, h2, h3, h4, _⟩
    · omega
    · injection h' with h' _ h''
      injection h' with h'
      injection h' with h'
      subst h' h''
      exact ⟨cur, h1, by omega⟩
  have hsa : w.shape? vb = some (tv, 1) := by simp [World.shape?, hvh]
  have hsb : w.shape? g = some (3, c) := by simp [World.shape?, hgh.1, hgh.2]
  have hov : ∀ la ca lb cb, (callFunc 30 #[.slice (some ⟨vb, 0, none⟩) la ca, .slice (some ⟨g, i + 1, none⟩) lb cb]).run Tryd.prog w = .ok (.value (.bool false)) w := fun la ca lb cb => by
    rw [run_callFunc_extern Tryd.func30 (by kernel_rfl) (by kernel_rfl) (by kernel_rfl) (e := Extern.SlicesOverlaps.overlaps #[22, 22] #[4]) (by kernel_rfl),
      Lib.run_overlaps_apart w 22 4 3 Tryd.underlying22 1 Tryd.sizeOf3 ⟨vb, 0, none⟩ ⟨g, i + 1, none⟩ la ca lb cb hvg tv 3 1 c hsa hsb (by omega) (hv.f 0) (hv.f 1)]
    rfl
  have hsz : (Tryd.prog.info? 3).map (·.size) = some 1 := by
    obtain ⟨i0, hi0, h0, h1, h2⟩ := info_parts (P := Tryd.prog) (e := 3) int_elem
    rw [hi0]; simp [h1]
  have hdl : (xs.drop i).length = n - i := by rw [List.length_drop, hxl]
  have hcs : ∀ j u, xs[j]? = some u → w.cell? ⟨g, j, none⟩ = some u := fun j u hu => by rw [hown.cellAt _ (by have := (List.getElem?_eq_some_iff.1 hu).1; omega)]; exact hu
  have hsp : ∀ j, j < n + 1 → (w.cell? ⟨g, j, none⟩).isSome = true := fun j hj => own_isSome hm j (by omega)
  have hcp1 : ∀ ty dc sc sl, n - i ≤ sl → (Builtin.copy_ #[24, 24] ty #[.slice (some ⟨g, i + 1, none⟩) (n - i) dc, .slice (some ⟨g, i, none⟩) sl sc]).run Tryd.prog w.drew = .ok (goInt (xs.drop i).length) (w.drew.setCells g (i + 1) (xs.drop i)) := fun ty dc sc sl hsl =>
    run_copy_cells w.drew _ _ ty 3 g (i + 1) (n - i) dc ⟨g, i, none⟩ sl sc (xs.drop i) Tryd.underlying24 hsz (by rw [hdl]; simp only [Nat.min_def]; split <;> omega)
      (fun j u hj => by rw [Addr.add_lit]; exact hcs (i + j) u (by rwa [List.getElem?_drop] at hj))
      (fun j hj => hsp _ (by omega)) (fun j hj => hown.frozenAt _) (fun u hu => h1 u (List.mem_of_mem_drop hu))
  obtain ⟨W1, hW1⟩ : ∃ W1, W1 = w.drew.setCells g (i + 1) (xs.drop i) := ⟨_, rfl⟩
  rw [← hW1] at ha hcp1 hfin
  have hcell1 : W1.cell? ⟨vb, 0, none⟩ = some (.int .i64 v) := by
    rw [hW1, World.cell?_setCells_out g _ _ _ _ (fun h _ => absurd h hvg)]
    exact hv.c 0
  have hcp2 : ∀ (W : World), (∀ x, W.cell? x = W1.cell? x) → (∀ x, W.frozen? x = W1.frozen? x) → ∀ ty dl dc, 1 ≤ dl → (Builtin.copy_ #[24, 22] ty #[.slice (some ⟨g, i, none⟩) dl dc, .slice (some ⟨vb, 0, none⟩) 1 1]).run Tryd.prog W = .ok (goInt 1) (W.setCells g i [.int .i64 v]) := fun W hWc hWf ty dl dc hdl =>
    run_copy_cells W _ _ ty 3 g i dl dc ⟨vb, 0, none⟩ 1 1 [.int .i64 v] Tryd.underlying24 hsz (by simp [Nat.min_def]; omega)
      (fun j u hj => by
        rcases j with _ | j
        · simp at hj; subst hj; rw [Addr.add_lit, hWc]; exact hcell1
        · simp at hj)
      (fun j hj => by rw [hWc]; exact own_isSome ha.1 _ (by simp at hj; omega))
      (fun j hj => by rw [hWf]; exact ha.1.frozenAt _) (by intro u hu; simp only [List.mem_cons, List.not_mem_nil, or_false] at hu; subst hu; rfl)
  have Hov := Lib.hid hov
  have Hcp1 := Lib.hid hcp1
  have Hcp2 := Lib.hid hcp2
  have Hfin := Lib.hid hfin
  have hw1 : IntKind.i64.wrap ((i : Int) + 1) = (i : Int) + 1 := by rw [IntKind.wrap_i64]; omega
  have hw2 : IntKind.i64.wrap ((n : Int) + 1) = (n : Int) + 1 := by rw [IntKind.wrap_i64]; omega
  have hz2 : ((i : Int) == (n : Int)) = false := by simp; omega
  have hz3 : decide ((c : Int) < (n : Int) + 1) = false := decide_eq_false (by omega)
  have htn : ((i : Int) + 1).toNat = i + 1 := by omega
  have htn2 : ((n : Int) + 1).toNat = n + 1 := by omega
  have hb4 : ¬ (c = i) := by omega
  have hb5 : ¬ (c = i + 1) := by omega
  have hi0 : (0 : Int) ≤ i := by omega
  have hi1 : (0 : Int) ≤ (i : Int) + 1 := by omega
  have hn1 : (0 : Int) ≤ (n : Int) + 1 := by omega
  have hin : (i : Int) ≤ n := by omega
  have hnc1 : (n : Int) + 1 ≤ c := by omega
  have hin1 : (i : Int) + 1 ≤ (n : Int) + 1 := by omega
  have hin2 : (i : Int) ≤ (n : Int) + 1 := by omega
  clear hov hcp1 hcp2 hfin ha hb hend hW1 hcell1 hm hown hv hvh hgh hsa hsb hcs hsp h1 hxl
  have hfol : Tryd.prog.follows Departure.mixedOrders = true := by kernel_rfl
  go_enter Tryd.func20, Tryd.ntmps20
  go_wp2_with (simp only [Hov.out])
  go_region_law_o (refine step_copy_at rfl _ _ 24 24 rfl (.slice (some ⟨g, i + 1, none⟩) (n - i) (c - (i + 1))) (.slice (some ⟨g, i, none⟩) (n + 1 - i) (c - i)) (by simp [Act.eval, Act.put]) (by simp [Act.eval, Act.put]) (Hcp1.out _ (c - (i + 1)) (c - i) (n + 1 - i) (by omega)) ?_)
  have Hcp3 := Hcp2.out W1 (fun _ => rfl) (fun _ => rfl) 3 (n + 1 - i) (c - i) (by omega)
  go_wp2_with (simp only [Hcp3])
  go_ret
  exact ⟨_, _, rfl, Hfin.out.1, Hfin.out.2⟩
end Go.Proofs.YtedcjakgdoiomaaDoor
