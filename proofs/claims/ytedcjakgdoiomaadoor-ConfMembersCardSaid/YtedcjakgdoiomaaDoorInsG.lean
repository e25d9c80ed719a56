/- slices.Insert at members: into a new row; all three roads. -/
import Derived.Test.YtedcjakgdoiomaaDoorIns
import Derived.Laws.NewBlocks
namespace Go.Proofs.YtedcjakgdoiomaaDoor
open Go.RowKit Go.Lib
set_option linter.unusedVariables false
set_option linter.unusedSimpArgs false
set_option maxRecDepth 100000
theorem drew_setCells (b : Nat) : ∀ (vs : List Value) (o : Nat) (w : World), (w.setCells b o vs).drew = w.drew.setCells b o vs
  | [], _, _ => rfl
  | v :: r, o, w => by rw [World.setCells, World.setCells, drew_setCells b r]; rfl
set_option maxHeartbeats 4000000 in
theorem insC_grow (B g n c i : Nat) (xs : List Value) (v : Int) (vb : Nat) (w : World) (hown : w.ownsRow B 3 1 (.slice (some ⟨g, 0, none⟩) n c) n xs) (hB : B ≤ w.heap.size) (hv : Bx w vb #[.int .i64 v]) (hi : i < n) (hroom : c < n + 1) (h1 : ∀ u ∈ xs, u.oneCell' = true) (hn : n ≤ 1000000) :
    Calls Tryd.prog 20 #[.slice (some ⟨g, 0, none⟩) n c, .int .i64 (i : Nat), .slice (some ⟨vb, 0, none⟩) 1 1] w (InsPost w B (some g) n (xs.take i ++ .int .i64 v :: xs.drop i)) := by
  have hxl : xs.length = n := by have := hown.1; omega
  have hnc := own_le hown
  obtain ⟨i0, hi0, hz0, hzs, hzb⟩ := info_parts (P := Tryd.prog) (e := 3) int_elem
  have hbw : g < w.heap.size := by
    rcases hown.2 with ⟨h', h''⟩ | ⟨g', cap, cur, h', _, hh, h2, h3, h4, _⟩
    · omega
    · injection h' with h' _ h''
      injection h' with h'
      injection h' with h'
      subst h'
      exact (Array.getElem?_eq_some_iff.1 hh).1
  have hvw := hv.lt
  have hcs : ∀ j u, xs[j]? = some u → w.cell? ⟨g, j, none⟩ = some u := fun j u hu => by rw [hown.cellAt _ (by have := (List.getElem?_eq_some_iff.1 hu).1; omega)]; exact hu
  have hsz : (Tryd.prog.info? 3).map (·.size) = some 1 := by rw [hi0]; simp [hzs]
  have hik : i + (n + 1 - i) = n + 1 := by omega
  have hold : (Builtin.firstCells i0.size i (.slice (some ⟨g, 0, none⟩) i c)).run Tryd.prog w.drew = .ok (xs.take i).toArray w.drew := by
    rw [hzs]
    exact run_firstCells_some w.drew 1 i ⟨g, 0, none⟩ i c (xs.take i) (by rw [List.length_take]; omega) (fun j u hj => by
      rw [Addr.add_lit, Nat.zero_add]
      rw [List.getElem?_take] at hj
      split at hj
      · exact hcs j u hj
      · cases hj)
  have hrz : ∀ ty, (Builtin.append_ #[24, 3] ty #[.slice (some ⟨g, 0, none⟩) i c, .int .i64 ((n + 1 - i : Nat) : Int)]).run Tryd.prog w =
      .ok (.slice (some ⟨w.heap.size, 0, none⟩) (n + 1) (grownCap w (n + 1) c 3)) (w.drew.alloc (.cells ((xs.take i).toArray ++ Builtin.zeroCells (Value.int .i64 0).cells (n + 1 - i) ++ Builtin.zeroCells (Value.int .i64 0).cells (grownCap w (n + 1) c 3 - (n + 1))) 3)) := fun ty => by
    have h := Lib.run_append_grow_zeros w 24 3 ty 3 i0 _ .i64 .i64 Tryd.underlying24 Tryd.underlying3 hi0 hz0 (some ⟨g, 0, none⟩) i c (xs.take i) hold (n + 1 - i) (by omega) (by omega) (by omega) (by omega) (by rw [hzb]; omega) (by rw [hzb, hik]; exact growslice_fits hroom (by omega))
    rw [hik] at h
    exact h
  obtain ⟨G, hG⟩ : ∃ G, G = grownCap w (n + 1) c 3 := ⟨_, rfl⟩
  obtain ⟨ROW, hROW⟩ : ∃ ROW : Array Value, ROW = (xs.take i).toArray ++ Builtin.zeroCells (Value.int .i64 0).cells (n + 1 - i) ++ Builtin.zeroCells (Value.int .i64 0).cells (G - (n + 1)) := ⟨_, rfl⟩
  rw [← hG] at hrz
  rw [← hROW] at hrz
  have hGn : n + 1 ≤ G := by rw [hG]; exact grownCap_ge w _ _ _
  have hGm : G ≤ maxLen := by
    rw [hG]
    exact grownCap_le_maxLen w (n + 1) c 3 (by unfold maxLen; omega)
  have hG63 : G ≤ 9223372036854775807 := by simpa [maxLen] using hGm
  have hRs : ROW.size = G := by
    rw [hROW]
    simp [Builtin.zeroCells, Value.cells]
    omega
  have hRt : ROW.toList.take i = xs.take i := by
    rw [hROW]
    simp only [Array.toList_append, List.append_assoc]
    rw [List.take_append_of_le_length (by simp; omega), List.take_take, Nat.min_self]
  obtain ⟨W1, hW1⟩ : ∃ W1, W1 = w.drew.alloc (.cells ROW 3) := ⟨_, rfl⟩
  rw [← hW1] at hrz
  have hown1 : W1.ownsRow B 3 1 (.slice (some ⟨w.heap.size, 0, none⟩) (n + 1) G) (n + 1) (ROW.toList.take (n + 1)) := by
    refine ⟨by simp; omega, .inr ⟨w.heap.size, G, ROW, rfl, hB, by rw [hW1]; exact heap_alloc_new w.drew _, hGn, hGm, by omega, by rw [Nat.mul_one]⟩⟩
  have hg1 : w.grownBy W1 (some g) := by
    subst hW1
    exact ⟨rfl, rfl, rfl, by simp, fun k hk _ => Below.heap_alloc w.drew _ k hk⟩
  have ha := own_setCells (w := w) (xs := xs) [.int .i64 v] W1 _ i hown1
  have hb := own_setCells (w := w) (xs := xs) (xs.drop i) (W1.setCells w.heap.size i [.int .i64 v]) _ (i + 1) ha.1
  have hend : lays (lays (ROW.toList.take (n + 1)) i [.int .i64 v]) (i + 1) (xs.drop i) = xs.take i ++ .int .i64 v :: xs.drop i := by
    have hl : (ROW.toList.take (n + 1)).length = n + 1 := by simp; omega
    rw [lays_eq (xs.drop i) _ _ (by rw [lays_length, hl]; simp; omega), lays_eq [.int .i64 v] _ _ (by rw [hl]; simp; omega)]
    have e0 : (ROW.toList.take (n + 1)).take i = xs.take i := by rw [List.take_take, show min i (n + 1) = i by omega, hRt]
    have e2 : (xs.take i).length = i := by simp; omega
    rw [e0]
    have e3 : (xs.take i ++ [Value.int .i64 v]).length = i + 1 := by simp; omega
    have e4 : (List.take i xs ++ [Value.int .i64 v] ++ List.drop (i + [Value.int .i64 v].length) (ROW.toList.take (n + 1))).drop (i + 1 + (xs.drop i).length) = [] := List.drop_of_length_le (by rw [List.length_append, e3, List.length_drop, hl, List.length_drop]; simp; omega)
    rw [e4, List.take_append_of_le_length (by rw [e3]; omega), List.take_of_length_le (by rw [e3]; omega), List.append_nil, List.append_assoc]
    rfl
  rw [hend] at hb
  have hfin : (((W1.setCells w.heap.size i [.int .i64 v]).setCells w.heap.size (i + 1) (xs.drop i)).ownsRow B 3 1 (.slice (some ⟨w.heap.size, 0, none⟩) (n + 1) G) (n + 1) (xs.take i ++ .int .i64 v :: xs.drop i)) ∧ w.grownBy ((W1.setCells w.heap.size i [.int .i64 v]).setCells w.heap.size (i + 1) (xs.drop i)) (some g) := by
    refine ⟨hb.1, hb.2.os.trans (ha.2.os.trans hg1.os), hb.2.tape.trans (ha.2.tape.trans hg1.tape), hb.2.output.trans (ha.2.output.trans hg1.output), Nat.le_trans hg1.size (Nat.le_trans ha.2.size hb.2.size), fun k hk hne => ?_⟩
    have h1 := Nat.lt_of_lt_of_le hk hg1.size
    have h2 : ¬ (some k = some w.heap.size) := by intro e; injection e; omega
    exact ((hb.2.block k (Nat.lt_of_lt_of_le h1 ha.2.size) h2).trans (ha.2.block k h1 h2)).trans (hg1.block k hk hne)
  have hOv : W1.cell? ⟨vb, 0, none⟩ = some (.int .i64 v) := by rw [hW1, World.cell?_alloc_past (w := w.drew) _ vb 0 hvw]; exact hv.c 0
  have hOb : ∀ j u, w.cell? ⟨g, j, none⟩ = some u → W1.cell? ⟨g, j, none⟩ = some u := fun j u h => by rw [hW1, World.cell?_alloc_past (w := w.drew) _ g j hbw]; exact h
  have hbN : g ≠ w.heap.size := by omega
  have hdl : (xs.drop i).length = n - i := by rw [List.length_drop, hxl]
  have hcpA : ∀ (W : World), (∀ x, W.cell? x = W1.cell? x) → (∀ x, W.frozen? x = W1.frozen? x) → ∀ ty dl dc, 1 ≤ dl → (Builtin.copy_ #[24, 22] ty #[.slice (some ⟨w.heap.size, i, none⟩) dl dc, .slice (some ⟨vb, 0, none⟩) 1 1]).run Tryd.prog W = .ok (goInt 1) (W.setCells w.heap.size i [.int .i64 v]) := fun W hWc hWf ty dl dc hdl =>
    run_copy_cells W _ _ ty 3 w.heap.size i dl dc ⟨vb, 0, none⟩ 1 1 [.int .i64 v] Tryd.underlying24 hsz (by simp [Nat.min_def]; omega)
      (fun j u hj => by
        rcases j with _ | j
        · simp at hj; subst hj; rw [Addr.add_lit, hWc]; exact hOv
        · simp at hj)
      (fun j hj => by rw [hWc]; exact own_isSome hown1 _ (by simp at hj; omega))
      (fun j hj => by rw [hWf]; exact hown1.frozenAt _) (by intro u hu; simp only [List.mem_cons, List.not_mem_nil, or_false] at hu; subst hu; rfl)
  have hcpB : ∀ (W : World), (∀ x, W.cell? x = (W1.setCells w.heap.size i [.int .i64 v]).cell? x) → (∀ x, W.frozen? x = (W1.setCells w.heap.size i [.int .i64 v]).frozen? x) → ∀ ty dc sl sc, n - i ≤ sl → (Builtin.copy_ #[24, 24] ty #[.slice (some ⟨w.heap.size, i + 1, none⟩) sl dc, .slice (some ⟨g, i, none⟩) (n - i) sc]).run Tryd.prog W = .ok (goInt (xs.drop i).length) (W.setCells w.heap.size (i + 1) (xs.drop i)) := fun W hWc hWf ty dc sl sc hsl =>
    run_copy_cells W _ _ ty 3 w.heap.size (i + 1) sl dc ⟨g, i, none⟩ (n - i) sc (xs.drop i) Tryd.underlying24 hsz (by rw [hdl]; simp only [Nat.min_def]; split <;> omega)
      (fun j u hj => by
        rw [Addr.add_lit, hWc, World.cell?_setCells_out _ _ _ _ _ (fun h _ => absurd h hbN)]
        exact hOb _ u (hcs (i + j) u (by rwa [List.getElem?_drop] at hj)))
      (fun j hj => by rw [hWc]; exact own_isSome ha.1 _ (by omega))
      (fun j hj => by rw [hWf]; exact ha.1.frozenAt _) (fun u hu => h1 u (List.mem_of_mem_drop hu))
  have Hrz := Lib.hid hrz
  have HcpA := Lib.hid hcpA
  have HcpB := Lib.hid hcpB
  have Hfin := Lib.hid hfin
  have Hd := Lib.hid (drew_setCells w.heap.size [.int .i64 v] i W1)
  have hkk : (n : Int) + 1 - (i : Int) = ((n + 1 - i : Nat) : Int) := by omega
  have hw1 : IntKind.i64.wrap ((i : Int) + 1) = (i : Int) + 1 := by rw [IntKind.wrap_i64]; omega
  have hw2 : IntKind.i64.wrap ((n : Int) + 1) = (n : Int) + 1 := by rw [IntKind.wrap_i64]; omega
  have hz2 : ((i : Int) == (n : Int)) = false := by simp; omega
  have hz3 : decide ((c : Int) < (n : Int) + 1) = true := decide_eq_true (by omega)
  have htn : ((i : Int) + 1).toNat = i + 1 := by omega
  have hGi : ¬ (G = i) := by omega
  have hGim : ¬ (G = i + 1) := by omega
  have hci : ¬ (c = i) := by omega
  have hi0' : (0 : Int) ≤ i := by omega
  have hi1 : (0 : Int) ≤ (i : Int) + 1 := by omega
  have hin : i ≤ n := by omega
  have hic : i ≤ c := by omega
  have hinI : (i : Int) ≤ n := by omega
  have hin1 : (i : Int) + 1 ≤ (n : Int) + 1 := by omega
  clear hrz hcpA hcpB hfin hb hend hold hOv hOb hown hv hcs h1 hxl hG hROW hRs hRt hg1 ha hown1
  subst hW1
  have hfol : Tryd.prog.follows Departure.mixedOrders = true := by kernel_rfl
  go_enter Tryd.func20, Tryd.ntmps20
  have HA2 := HcpA.out ((w.alloc (.cells ROW 3)).drew) (fun _ => rfl) (fun _ => rfl) 3 (n + 1 - i) (G - i) (by omega)
  go_wp2_with (first
    | (at_builtin; refine Lib.wpList_append_run _ rfl _ _ _ _ rfl _ _ rfl rfl _ _ (Hrz.out _) ?_)
    | simp only [HA2])
  go_region_law_o (refine step_copy_at rfl _ _ 24 24 rfl (.slice (some ⟨w.heap.size, i + 1, none⟩) (n - i) (G - (i + 1))) (.slice (some ⟨g, i, none⟩) (n - i) (c - i)) (by simp [Act.eval, Act.put]) (by simp [Act.eval, Act.put]) (HcpB.out (((w.alloc (.cells ROW 3)).drew.setCells w.heap.size i [Value.int .i64 v]).drew) (fun _ => rfl) (fun _ => rfl) _ (G - (i + 1)) (n - i) (c - i) (by omega)) ?_)
  go_wp2_with fail
  go_ret
  have hf := Hfin.out
  have e : ((w.alloc (.cells ROW 3)).drew.setCells w.heap.size i [Value.int .i64 v]).drew.setCells w.heap.size (i + 1) (xs.drop i) = (((w.drew.alloc (.cells ROW 3)).setCells w.heap.size i [Value.int .i64 v]).setCells w.heap.size (i + 1) (xs.drop i)).drew := by
    rw [drew_setCells, drew_setCells, drew_setCells]
    rfl
  rw [e]
  exact ⟨_, _, rfl, hf.1.drew, ⟨hf.2.os, hf.2.tape, hf.2.output, hf.2.size, hf.2.block⟩⟩
theorem insC_any (B : Nat) (A : Option Addr) (n c i : Nat) (xs : List Value) (v : Int) (vb : Nat) (w : World) (hown : w.ownsRow B 3 1 (.slice A n c) n xs) (hB : B ≤ w.heap.size) (hv : Bx w vb #[.int .i64 v]) (hvg : ∀ b, A.map (·.block) = some b → vb ≠ b) (hi : i ≤ n) (h1 : ∀ u ∈ xs, u.oneCell' = true) (hn : n ≤ 1000000) :
    Calls Tryd.prog 20 #[.slice A n c, .int .i64 (i : Nat), .slice (some ⟨vb, 0, none⟩) 1 1] w (InsPost w B (A.map (·.block)) n (xs.take i ++ .int .i64 v :: xs.drop i)) := by
  have hxl : xs.length = n := by have := hown.1; omega
  by_cases hin : i = n
  · subst hin
    have := insC_end B A i c xs v vb w hown hB hv hn
    rw [List.take_of_length_le (by omega), List.drop_of_length_le (by omega)]
    exact this
  · obtain ⟨g, rfl⟩ : ∃ g, A = some ⟨g, 0, none⟩ := by
      rcases hown.2 with ⟨h', h''⟩ | ⟨g', _, _, h', _⟩
      · omega
      · injection h' with h' _ _
        exact ⟨g', h'⟩
    by_cases hc : n + 1 ≤ c
    · exact insC_shift B g n c i xs v vb w hown hv (hvg g rfl) (by omega) hc h1 hn
    · exact insC_grow B g n c i xs v vb w hown hB hv (by omega) (by omega) h1 hn
end Go.Proofs.YtedcjakgdoiomaaDoor
