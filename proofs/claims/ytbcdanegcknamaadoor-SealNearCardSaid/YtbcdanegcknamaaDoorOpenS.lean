/- Walk of seal.Open. -/
import Derived.Test.YtbcdanegcknamaaDoorSeal
import Derived.Deep.DeepCutAuto
namespace Go.Proofs.YtbcdanegcknamaaDoor
open Go.RowKit
set_option linter.unusedVariables false
set_option linter.unusedSimpArgs false
theorem eqIn4 (w : World) (n : Nat) (a b c d x y z u : Int) : (Op.equalIn (n + 2) 43 (.agg #[.int .u8 a, .int .u8 b, .int .u8 c, .int .u8 d]) (.agg #[.int .u8 x, .int .u8 y, .int .u8 z, .int .u8 u])).run Tryd.prog w = .ok (a == x && b == y && c == z && d == u) w := by
  have hs : (sizeOf 5).run Tryd.prog w = .ok 1 w := by kernel_rfl
  have hp : ∀ (W : World) (v : Array Value) (i : Nat) (k : Int), v[i]? = some (.int .u8 k) → (part 5 v i).run Tryd.prog W = .ok (.int .u8 k) W := by
    intro W v i k h
    simp [go_sem, part, h]
  rw [Op.equalIn]
  simp only [Sem.run_bind, run_underlying Tryd.underlying43, Result.andThen_ok, hs]
  simp [List.range', hp, run_equalIn_int (P := Tryd.prog) w n 5 .u8 .u8 _ _ Tryd.underlying5]
  by_cases h1 : a = x <;> by_cases h2 : b = y <;> by_cases h3 : c = z <;> by_cases h4 : d = u <;> simp [h1, h2, h3, h4]
theorem neq4 (w : World) (a b c d x y z u : Int) : (binOp .neq 43 (.agg #[.int .u8 a, .int .u8 b, .int .u8 c, .int .u8 d]) (.agg #[.int .u8 x, .int .u8 y, .int .u8 z, .int .u8 u])).run Tryd.prog w = .ok (.bool (!(a == x && b == y && c == z && d == u))) w := by
  rw [run_neq_struct, eqIn4 w 9998]
  rfl
theorem arr4 (w : World) (a : Addr) (c : Nat) : (Instr.arrayAt 43 (.slice (some a) 4 c)).run Tryd.prog w = .ok (.pointer (some a)) w := by
  simp [Instr.arrayAt, run_underlying Tryd.underlying43]
attribute [local go_sem high] neq4 arr4
theorem bool4 (a b c d x y z u : UInt8) : (!(a.toNat : Int) == (x.toNat : Int) || !(b.toNat : Int) == (y.toNat : Int) || !(c.toNat : Int) == (z.toNat : Int) || !(d.toNat : Int) == (u.toNat : Int)) = decide ([a, b, c, d] ≠ [x, y, z, u]) := by
  have h : ∀ p q : UInt8, ((p.toNat : Int) == (q.toNat : Int)) = decide (p = q) := fun p q => by
    rw [Bool.eq_iff_iff]
    simp only [beq_iff_eq, decide_eq_true_eq, Int.natCast_inj]
    exact UInt8.toNat_inj
  rw [h, h, h, h]
  by_cases h1 : a = x <;> by_cases h2 : b = y <;> by_cases h3 : c = z <;> by_cases h4 : d = u <;> simp [h1, h2, h3, h4]
def OpenPost (W : World) (k : UInt8) (l : List UInt8) (er : Value) (e : Ending) (w' : World) : Prop :=
  ∃ A n c, e = .returned (.tuple #[.int .u8 (k.toNat : Int), .slice A n c, er]) ∧ Rd w' T 1 A n (bs l) ∧ Below W.heap.size W w'
theorem open_short (A : Option Addr) (n c : Nat) (w : World) (h : (n : Int) < 5) :
    Calls Tryd.prog 10 #[.slice A n c] w (OpenPost w 0 [] (.iface 42 (.int .i64 12))) := by
  go_enter Tryd.func10, Tryd.ntmps10
  go_wp2_with fail
  go_ret3
  exact ⟨none, 0, 0, rfl, Rd.none_, Below.refl _ _⟩
set_option maxHeartbeats 800000 in
theorem open_long (bb o n c : Nat) (b : List UInt8) (w : World) {ok : Nat → Prop} (hr : Rd w ok 1 (some ⟨bb, o, none⟩) (n + 4) (bs b)) (hn1 : 1 ≤ n) (hc : n + 4 ≤ c) (hn : n ≤ 1048576) (er : Value) (k : UInt8) (l : List UInt8)
    (hcase : (tailOf (sumOf (b.take n)) ≠ b.drop n ∧ k = 0 ∧ l = [] ∧ er = .iface 42 (.int .i64 11)) ∨ (tailOf (sumOf (b.take n)) = b.drop n ∧ (((b.getD 0 0).toNat : Int) == 0) = true ∧ k = 0 ∧ l = [] ∧ er = .iface 42 (.int .i64 1)) ∨ (tailOf (sumOf (b.take n)) = b.drop n ∧ (((b.getD 0 0).toNat : Int) == 0) = false ∧ k = b.getD 0 0 ∧ l = (b.take n).drop 1 ∧ er = .nilIface)) :
    Calls Tryd.prog 10 #[.slice (some ⟨bb, o, none⟩) (n + 4) c] w (OpenPost w k l er) := by
  have hl := hr.blen
  obtain ⟨A1, e1, r1⟩ : ∃ A1, (∀ W, (Instr.sliceAt 22 (.slice (some ⟨bb, o, none⟩) (n + 4) c) none (some (.int .i64 (n : Int))) none).run Tryd.prog W = .ok (.slice A1 n c) W) ∧ Rd w ok 1 A1 n (bs (b.take n)) :=
    ⟨_, fun W => by have := run_slice_hi (P := Tryd.prog) 22 Tryd.underlying22 (size := 1) (by kernel_rfl) (some ⟨bb, o, none⟩) (n + 4) c W n (by omega); simpa using this, by have := hr.bsub (i := 0) (k := n) (m := c) (by omega) (by omega); simpa using this⟩
  have e2 : ∀ W, (Instr.sliceAt 22 (.slice (some ⟨bb, o, none⟩) (n + 4) c) (some (.int .i64 (n : Int))) none none).run Tryd.prog W = .ok (.slice (some ⟨bb, o + n, none⟩) 4 (c - n)) W := fun W => by
    have := run_slice_lo (P := Tryd.prog) 22 Tryd.underlying22 (size := 1) (by kernel_rfl) (some ⟨bb, o, none⟩) (n + 4) c W n (by omega)
    rw [this, if_neg (by omega), show n + 4 - n = 4 from by omega]
    simp [Addr.add]
    omega
  obtain ⟨bb', o', hbb, _, hlt, hc0⟩ := hr.plain (by omega) (by omega)
  injection hbb with hbb
  injection hbb with h1 h2 _
  subst h1 h2
  obtain ⟨x0, x1, x2, x3, hx⟩ : ∃ x0 x1 x2 x3, b.drop n = [x0, x1, x2, x3] := by
    have h4 : (b.drop n).length = 4 := by rw [List.length_drop]; omega
    match hd : b.drop n, h4 with
    | [a, b', c', d'], _ => exact ⟨a, b', c', d', rfl⟩
  have hget : ∀ i x, (b.drop n)[i]? = some x → w.cell? ⟨bb, o + n + i, none⟩ = some (.int .u8 (x.toNat : Int)) := by
    intro i x hix
    rw [List.getElem?_drop] at hix
    have := hc0 (n + i) (.int .u8 (x.toNat : Int)) (by rw [bs, List.getElem?_map, hix]; rfl)
    rwa [← Nat.add_assoc] at this
  have c0 := hget 0 x0 (by rw [hx]; rfl)
  have c1 := hget 1 x1 (by rw [hx]; rfl)
  have c2 := hget 2 x2 (by rw [hx]; rfl)
  have c3 := hget 3 x3 (by rw [hx]; rfl)
  simp only [Nat.add_zero] at c0
  have hc00 : w.cell? ⟨bb, o, none⟩ = some (.int .u8 ((b.getD 0 0).toNat : Int)) := by
    have := hc0 0 (.int .u8 ((b.getD 0 0).toNat : Int)) (by rw [bs_get b 0 (by omega), List.getD_eq_getElem?_getD, List.getElem?_eq_getElem (by omega)]; rfl)
    simpa using this
  have Hl := Lib.hid hl
  have Hx := Lib.hid hx
  clear hl hx hget hc0
  have hs := sumOf_lt (b.take n)
  obtain ⟨s, hse⟩ : ∃ s, s = sumOf (b.take n) := ⟨_, rfl⟩
  rw [← hse] at hs
  have Hs := Lib.hid hse
  clear hse
  have sof : ∀ W, Below w.heap.size w W → (Below w.heap.size w W ∧ W.cell? ⟨bb, o + n, none⟩ = some (.int .u8 (x0.toNat : Int)) ∧ W.cell? ⟨bb, o + n + 1, none⟩ = some (.int .u8 (x1.toNat : Int)) ∧ W.cell? ⟨bb, o + n + 2, none⟩ = some (.int .u8 (x2.toNat : Int)) ∧ W.cell? ⟨bb, o + n + 3, none⟩ = some (.int .u8 (x3.toNat : Int))) :=
    fun W hb => ⟨hb, (hb.cell (p := ⟨bb, o + n, none⟩) hlt).trans c0, (hb.cell (p := ⟨bb, o + n + 1, none⟩) hlt).trans c1, (hb.cell (p := ⟨bb, o + n + 2, none⟩) hlt).trans c2, (hb.cell (p := ⟨bb, o + n + 3, none⟩) hlt).trans c3⟩
  clear c0 c1 c2 c3
  generalize b.getD 0 0 = y0 at hc00 hcase
  have Hcase := Lib.hid hcase
  clear hcase
  go_enter Tryd.func10, Tryd.ntmps10
  go_upto_region 4 with (fail)
  go_cut [12] (fun s12 W => s12 = .bool (decide (tailOf s ≠ b.drop n)) ∧ Below w.heap.size w W)
  case first =>
    go_region_held3 (fun W => Below w.heap.size w W ∧ W.cell? ⟨bb, o + n, none⟩ = some (.int .u8 (x0.toNat : Int)) ∧ W.cell? ⟨bb, o + n + 1, none⟩ = some (.int .u8 (x1.toNat : Int)) ∧ W.cell? ⟨bb, o + n + 2, none⟩ = some (.int .u8 (x2.toNat : Int)) ∧ W.cell? ⟨bb, o + n + 3, none⟩ = some (.int .u8 (x3.toNat : Int))) ((refine sof _ ?_; first | exact (Below.refl _ _).drew | (go_split_ands; assumption) | (go_split_ands; exact Below.trans (by assumption) (Below.mono (by assumption) (Below.size (by assumption)))))) (first | (go_at_call 12; go_split_ands; refine (sum_any A1 n c (b.take n) _ (r1.below (by assumption)) (by omega)).mono ?_; rintro e w2 ⟨rfl, rfl⟩; rw [← Hs.out]) | (go_at_call 13; refine (four_any s _ hs).mono ?_; rintro e w3 ⟨d0, d1, d2, d3, hd, rfl, hb3⟩))
    all_goals
      go_wp2_with fail
      go_meet
      case rel =>
        rw [hd, Hx.out, ← bool4]
        exact ⟨rfl, by first | assumption | (exact Below.trans (by assumption) (Below.mono (by assumption) (Below.size (by assumption))))⟩
  case rest =>
    obtain ⟨rfl, hb⟩ := hcut
    have k0 := (hb.cell (p := ⟨bb, o, none⟩) hlt).trans hc00
    rcases Hcase.out with ⟨h1, rfl, rfl, rfl⟩ | ⟨h1, h2, rfl, rfl, rfl⟩ | ⟨h1, h2, rfl, rfl, rfl⟩
    · rw [Hs.out, decide_eq_true h1]
      go_wp2_with fail
      go_ret3
      exact ⟨none, 0, 0, rfl, Rd.none_, hb⟩
    · rw [Hs.out, decide_eq_false (fun h => h h1)]
      go_wp2_with fail
      go_ret3
      exact ⟨none, 0, 0, rfl, Rd.none_, hb⟩
    · rw [Hs.out, decide_eq_false (fun h => h h1)]
      have h3 : ¬ (1048576 : Int) < (n : Int) - 1 := by omega
      obtain ⟨A2, e3, r3⟩ : ∃ A2, (∀ W, (Instr.sliceAt 22 (.slice (some ⟨bb, o, none⟩) (n + 4) c) (some (.int .i64 1)) (some (.int .i64 (n : Int))) none).run Tryd.prog W = .ok (.slice A2 (n - 1) (c - 1)) W) ∧ Rd w ok 1 A2 (n - 1) (bs ((b.take n).drop 1)) :=
        ⟨_, fun W => by have := run_slice_lohi (P := Tryd.prog) 22 Tryd.underlying22 (size := 1) (by kernel_rfl) (some ⟨bb, o, none⟩) (n + 4) c W 1 n (by omega) (by omega); simpa using this, by have := hr.bsub (i := 1) (k := n - 1) (m := c) (by omega) (by omega); rw [List.drop_take]; simpa using this⟩
      have h0n : (0 : Int) < (n : Int) + 4 := by omega
      have sof2 : ∀ W, Below wc.heap.size wc W → (Below wc.heap.size wc W ∧ W.cell? ⟨bb, o, none⟩ = some (.int .u8 (k.toNat : Int))) := fun W hb' => ⟨hb', (hb'.cell (p := ⟨bb, o, none⟩) (by have := hb.size; simp; omega)).trans k0⟩
      go_wp2_with fail
      go_region_held3 (fun W => Below wc.heap.size wc W ∧ W.cell? ⟨bb, o, none⟩ = some (.int .u8 (k.toNat : Int))) ((refine sof2 _ ?_; first | exact (Below.refl _ _).drew | (go_split_ands; assumption) | (go_split_ands; exact Below.trans (by assumption) (Below.mono (by assumption) (Below.size (by assumption)))))) (first | (go_at_call 17; go_split_ands; refine (clone_any A2 (n - 1) (c - 1) (bs ((b.take n).drop 1)) _ ((r3.below hb).below (by assumption)) (bs_one _) (by omega)).mono ?_; rintro e w2 ⟨A4, c4, rfl, hown4, hb4⟩))
      all_goals
        go_wp2_with fail
        go_ret3
        exact ⟨A4, _, c4, rfl, (Rd.of_own hown4).any, hb.trans ((by first | assumption | (exact Below.trans (by assumption) (Below.mono (by assumption) (Below.size (by assumption)))) : Below wc.heap.size wc _).mono hb.size)⟩
end Go.Proofs.YtbcdanegcknamaaDoor
