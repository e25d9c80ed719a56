/- Walks: place of any number; Put at places that are none; Put where there is no room. -/
import Derived.Test.YtckpinnnmafdgaaDoorCopy
namespace Go.Proofs.YtckpinnnmafdgaaDoor
open Go.RowKit
set_option linter.unusedVariables false
set_option linter.unusedSimpArgs false
set_option maxRecDepth 100000
def okP (z : Int) : Bool := decide (1 ≤ z) && decide (z ≤ 1000)
theorem okP_iff {z : Int} : okP z = true ↔ 1 ≤ z ∧ z ≤ 1000 := by simp [okP]
theorem place_any (z : Int) (w : World) : Calls Tryd.prog 21 #[.int .i64 z] w fun e w' => e = .returned (.bool (okP z)) ∧ w = w' := by
  by_cases h1 : 1 ≤ z
  · by_cases h2 : z ≤ 1000
    · rw [okP_iff.2 ⟨h1, h2⟩]
      exact place_yes z w h1 h2
    · have hq : okP z = false := by simp [okP, h2]
      rw [hq]
      have h2d : decide (z ≤ 1000) = false := decide_eq_false h2
      clear hq
      go_enter Tryd.func21, Tryd.ntmps21
      go_wp2_with fail
      go_ret
      exact ⟨rfl, rfl⟩
  · have hq : okP z = false := by simp [okP, h1]
    rw [hq]
    have h1d : decide (1 ≤ z) = false := decide_eq_false h1
    clear hq
    go_enter Tryd.func21, Tryd.ntmps21
    go_wp2_with fail
    go_ret
    exact ⟨rfl, rfl⟩
def PutErr (W : World) (k : Int) (e : Ending) (w' : World) : Prop := e = .returned (.tuple #[.int .i64 0, errK k]) ∧ Below W.heap.size W w'
theorem put_bad (g : Nat) (a b : Int) (v : Value) (w : World) (h : okP a = false ∨ (okP a = true ∧ okP b = false)) :
    Calls Tryd.prog 5 #[.pointer (some ⟨g, 0, none⟩), .int .i64 a, .int .i64 b, v] w (PutErr w 1) := by
  have ha := fun W => place_any a W
  have hb := fun W => place_any b W
  generalize okP a = qa at ha h
  generalize okP b = qb at hb h
  have Ha := Lib.hid ha
  have Hb := Lib.hid hb
  clear ha hb
  rcases h with rfl | ⟨rfl, rfl⟩
  · go_enter Tryd.func5, Tryd.ntmps5
    go_wp2_with fail
    refine (Ha.out _).mono ?_
    rintro e w1 ⟨rfl, rfl⟩
    go_wp2_with fail
    go_ret2
    exact ⟨rfl, Below.refl _ _⟩
  · go_enter Tryd.func5, Tryd.ntmps5
    go_wp2_with fail
    refine (Ha.out _).mono ?_
    rintro e w1 ⟨rfl, rfl⟩
    go_wp2_with fail
    refine (Hb.out _).mono ?_
    rintro e w1 ⟨rfl, rfl⟩
    go_wp2_with fail
    go_ret2
    exact ⟨rfl, Below.refl _ _⟩
/-- A net with its items' data apart, behind Put, all told. -/
theorem NI.put2 {W W' : World} {g gm : Nat} {lim last : Int} {cnt : Nat} {f : Int → Int → Int} {A : Option Addr} {nl cl : Nat} {l : List Ic} {a b : Int} {nd : Nat} {d : List UInt8} {e : Ending}
    (h : NI W g gm lim last cnt f A nl cl l) (hnd : nd ≤ 1048576) (hp : PutNew W g gm lim last cnt f A nl (flat icell l) a b nd d e W') :
    ∃ A' cl' A3 c3, e = .returned (.tuple #[.int .i64 (last + 1), .nilIface]) ∧ NI W' g gm lim (last + 1) cnt f A' (nl + 1) cl' (l ++ [⟨last + 1, a, b, A3, nd, c3, d⟩]) ∧ (∀ k, A3.map (·.block) = some k → W.heap.size ≤ k) ∧ (A'.map (·.block) = A.map (·.block) ∨ ∃ k, A'.map (·.block) = some k ∧ W.heap.size ≤ k) ∧ (∀ k, k < W.heap.size → k ≠ g → some k ≠ A.map (·.block) → W'.heap[k]? = W.heap[k]?) ∧ Below gm W W' := by
  obtain ⟨he, ⟨A', cl', A3, c3, hns, hd, hne, hat, hsame⟩, hb⟩ := hp
  have hgl := h.ns.bx.lt
  refine ⟨A', cl', A3, c3, he, ⟨?_, ?_, ?_, ?_⟩, fun k hk => (own_lt hd k hk).1, hat, hsame, hb⟩
  · rw [flat_append, flat_one]
    exact hns
  · intro x hx
    rcases List.mem_append.1 hx with hx | hx
    · have hd0 := h.dt x hx
      refine ⟨own_same hd0.1 fun k hk => ?_, hd0.2⟩
      have := own_lt hd0.1 k hk
      exact hsame k this.2 (by omega) (fun e => h.sp x hx k hk e.symm)
    · obtain rfl := List.mem_singleton.1 hx
      exact ⟨own_mono hd (by omega), hnd⟩
  · intro x hx k hk
    rcases List.mem_append.1 hx with hx | hx
    · have := own_lt (h.dt x hx).1 k hk
      rcases hat with e1 | ⟨q, e1, hq⟩
      · rw [e1]; exact h.sp x hx k hk
      · rw [e1]; intro e2; injection e2 with e2; omega
    · obtain rfl := List.mem_singleton.1 hx
      exact hne k hk
  · rw [List.pairwise_append]
    refine ⟨h.ds, List.pairwise_singleton _ _, fun x hx y hy k hk => ?_⟩
    obtain rfl := List.mem_singleton.1 hy
    have h1 := own_lt (h.dt x hx).1 k hk
    intro e2
    have h2 := own_lt hd k e2
    omega
/-- A net stays where other blocks turn. -/
theorem NI.grown {W W' : World} {g gm : Nat} {lim last : Int} {cnt : Nat} {f : Int → Int → Int} {A : Option Addr} {nl cl : Nat} {l : List Ic} {row : Option Nat} (h : NI W g gm lim last cnt f A nl cl l) (hg : W.grownBy W' row) (h1 : row ≠ some g) (h2 : row ≠ some gm) (h3 : ∀ b, row = some b → A.map (·.block) ≠ some b) (h4 : ∀ b, row = some b → ∀ x ∈ l, x.A.map (·.block) ≠ some b) : NI W' g gm lim last cnt f A nl cl l := by
  have hkeep : ∀ (B : Option Addr) (n c : Nat), (∀ b, row = some b → B.map (·.block) ≠ some b) → (Value.slice B n c).ownBlock = none ∨ (Value.slice B n c).ownBlock ≠ row := by
    intro B n c hB
    rcases B with _ | a
    · exact .inl rfl
    · right
      intro e
      exact hB a.block (show row = some a.block from e.symm) rfl
  refine ⟨⟨h.ns.bx.grown hg h1, h.ns.own.kept hg (hkeep A _ _ h3), h.ns.mp.grown hg (fun e => h2 e.symm), h.ns.gg⟩, fun x hx => ⟨(h.dt x hx).1.kept hg (hkeep x.A _ _ fun b hb => h4 b hb x hx), (h.dt x hx).2⟩, h.sp, h.ds⟩
end Go.Proofs.YtckpinnnmafdgaaDoor
