/- Walks: slices.Clone at items, the law's give. -/
import Derived.Test.YtodjjcnidgmkmaaDoorMay
import Derived.Deep.RegionLaw
import Derived.Deep.DeepCutAuto
namespace Go.Proofs.YtodjjcnidgmkmaaDoor
open Go.RowKit
set_option linter.unusedVariables false
set_option linter.unusedSimpArgs false
theorem it_elem : Elem Tryd.prog 36 (itA ⟨0, 0, 0, 0⟩) 4 32 := by unfold Elem; kernel_rfl
theorem eqlIt (w : World) (A : Option Addr) (n c : Nat) : (binOp .eql 28 (.slice A n c) (.slice none 0 0)).run Tryd.prog w = .ok (.bool A.isNone) w := Lib.run_eql_slice_nil w 28 36 A n c 0 0 Tryd.underlying28
attribute [local go_sem] eqlIt
def RowPost (W : World) (n : Nat) (l : List It) (e : Ending) (w' : World) : Prop := ∃ A' c', e = .returned (.slice A' n c') ∧ w'.ownsRow W.heap.size 36 4 (.slice A' n c') n (flat itc l) ∧ Below W.heap.size W w'
theorem cloneIt_any (A : Option Addr) (n c : Nat) (l : List It) (w : World) {ok : Nat → Prop} (hr : Rd w ok 4 A n (flat itc l)) (hn : n ≤ 1000000) :
    Calls Tryd.prog 21 #[.slice A n c] w (RowPost w n l) := by
  cases A with
  | none =>
    obtain ⟨rfl, hx⟩ := hr.nil_of_none
    have Hx := Lib.hid hx
    clear hx
    go_enter Tryd.func21, Tryd.ntmps21
    go_wp2_with fail
    go_ret
    refine ⟨_, _, rfl, ?_, Below.refl _ _⟩
    rw [Hx.out]
    exact own_nil _ _ _ _ _ rfl
  | some ad =>
    have h1 := itc_one l
    have H1 := Lib.hid h1
    clear h1
    go_enter Tryd.func21, Tryd.ntmps21
    go_wp2_with (at_builtin; refine wpList_append_any _ Tryd.underlying28 it_elem rfl (by omega) rfl rfl rfl (own_new w w.heap.size 36 4 (Nat.le_refl _)) rfl (hr.alloc _) H1.out (by omega) (by simp) (Nat.zero_add _) (List.nil_append _) ?_; intro A1 c1 w1 hown1 hg1 hat1)
    go_ret
    exact ⟨_, _, rfl, hown1, ((Below.refl _ _).alloc (Nat.le_refl _) _).grown hg1 (by simp) (by simp)⟩
/-- A queue handed back: its limit, its slice, read as l. -/
def QuPost (W : World) (lim : Int) (l : List It) (e : Ending) (w' : World) : Prop := ∃ A n c, e = .returned (quA lim A n c) ∧ Rd w' (W.heap.size ≤ ·) 4 A n (flat itc l) ∧ Below W.heap.size W w'
theorem Rd.blit {w : World} {cs : Array Value} {t : TypeId} {fr : Nat × Nat} {k : Nat} (hk : cs.size = k) : Rd (w.alloc (.cells cs t fr)) (w.heap.size ≤ ·) k (some ⟨w.heap.size, 0, none⟩) 1 cs.toList := by
  refine ⟨by simpa using hk, fun _ => ⟨_, rfl, Nat.le_refl _, fun j u hu => ?_⟩⟩
  exact World.news_of_block (heap_alloc_new w _) j u hu
structure GInv (w : World) (lim : Int) (A : Option Addr) (n c : Nat) (l : List It) (j : Nat) (A1 : Option Addr) (c1 : Nat) (wr : World) : Prop where
  own : wr.ownsRow (w.heap.size + 3) 36 4 (.slice A1 j c1) j (flat itc (l.take j))
  b0 : Bx wr w.heap.size #[.int .i64 lim, .slice A n c]
  b1 : Bx wr (w.heap.size + 1) #[.int .i64 0, .slice none 0 0]
  b2 : Bx wr (w.heap.size + 2) #[.int .i64 lim, .slice A1 j c1]
  be : Below w.heap.size w wr
theorem GInv.step {w : World} {lim : Int} {A : Option Addr} {n c : Nat} {l : List It} {j : Nat} {A1 A2 : Option Addr} {c1 c2 : Nat} {wr w1 : World} {x : It} {o : Obj} (h : GInv w lim A n c l j A1 c1 wr)
    (hx : l[j]? = some x) (hown : w1.ownsRow (w.heap.size + 3) 36 4 (.slice A2 (j + 1) c2) (j + 1) (flat itc (l.take j ++ [x]))) (hg : (wr.drew.alloc o).grownBy w1 (A1.map (·.block))) :
    GInv w lim A n c l (j + 1) A2 c2 (w1.setCell ⟨w.heap.size + 2, 1, none⟩ (.slice A2 (j + 1) c2)) := by
  have hrow : ∀ g, A1.map (·.block) = some g → w.heap.size + 3 ≤ g := fun g hg => (own_lt h.own g hg).1
  have hne : ∀ b, b < w.heap.size + 3 → A1.map (·.block) ≠ some b := fun b hb e => by have := hrow b e; omega
  have hs : l.take (j + 1) = l.take j ++ [x] := by rw [List.take_add_one, hx]; rfl
  have hlt := h.b2.lt
  refine ⟨?_, ((h.b0.drew.alloc o).grown hg (hne _ (by omega))).far (by simp) _, ((h.b1.drew.alloc o).grown hg (hne _ (by omega))).far (by simp) _, ((h.b2.drew.alloc o).grown hg (hne _ (by omega))).set 1 _, ?_⟩
  · rw [hs]
    refine hown.kept (row := some (w.heap.size + 2)) ⟨rfl, rfl, rfl, by simp [World.setCell], fun k _ hk => Below.heap_setCell _ _ _ k (fun e => hk (by rw [e]))⟩ ?_
    rcases A2 with _ | a2
    · exact .inl rfl
    · right
      intro e
      have := (own_lt hown a2.block rfl).1
      have e' : some a2.block = some (w.heap.size + 2) := e
      injection e' with e'
      omega
  · refine Below.setCell ?_ (by show w.heap.size ≤ w.heap.size + 2; omega) _
    exact (h.be.drew.alloc h.be.size o).grown hg (by have := h.be.size; simp; omega) (fun g hg' => by have := hrow g hg'; omega)
theorem GInv.mid {w : World} {lim : Int} {A : Option Addr} {n c : Nat} {l : List It} {j : Nat} {A1 : Option Addr} {c1 : Nat} {wr w1 : World} {o : Obj} (h : GInv w lim A n c l j A1 c1 wr) (hg : (wr.drew.alloc o).grownBy w1 (A1.map (·.block))) :
    w1.cell? ⟨w.heap.size + 1 + 1, 1, none⟩ = some (.slice A1 j c1) ∧ w1.frozen? ⟨w.heap.size + 1 + 1, 1, none⟩ = false := by
  have hb := (h.b2.drew.alloc o).grown hg (fun e => by have := (own_lt h.own _ e).1; omega)
  exact ⟨hb.c 1, hb.f 1⟩
set_option maxHeartbeats 1600000 in
theorem give_any (lim : Int) (A : Option Addr) (n c : Nat) (l : List It) (w : World) {ok : Nat → Prop} (hr : Rd w ok 4 A n (flat itc l)) (hn : n ≤ 1000000) :
    Calls Tryd.prog 7 #[quA lim A n c] w (QuPost w lim l) := by
  have hl := hr.flen itc_len (by omega)
  have Hl := Lib.hid hl
  clear hl
  unfold quA
  have hinv : GInv w lim A n c l 0 none 0 (((w.alloc (.cells #[.int .i64 lim, .slice A n c] 24)).alloc (.cells #[.int .i64 0, .slice none 0 0] 30)).alloc (.cells #[.int .i64 lim, .slice none 0 0] 30)) :=
    ⟨own_nil _ _ _ _ _ rfl, ((Bx.new w _ _ rfl).alloc _).alloc _, (Bx.new _ _ _ (by simp)).alloc _, Bx.new _ _ _ (by simp), (((Below.refl _ _).alloc (Nat.le_refl _) _).alloc (by simp) _).alloc (by simp; omega) _⟩
  go_enter Tryd.func7, Tryd.ntmps7
  go_wp2_with fail
  go_loopg [4] n (fun m s4 wr => ∃ j A1 c1, m = n - j ∧ j ≤ n ∧ s4 = .int .i64 (j : Nat) ∧ GInv w lim A n c l j A1 c1 wr)
  case atStart => exact ⟨0, none, 0, by omega, by omega, rfl, hinv⟩
  case round =>
    obtain ⟨j, A1, c1, hm, hj, rfl, hi⟩ := hrel
    clear hinv
    have Hm := Lib.hid hm
    have k0 : wr.cell? ⟨w.heap.size, 1, none⟩ = some (.slice A n c) := hi.b0.c 1
    have k1 : wr.cell? ⟨w.heap.size + 1 + 1, 1, none⟩ = some (.slice A1 j c1) := hi.b2.c 1
    have k4 : wr.cell? ⟨w.heap.size + 1 + 1, 0, none⟩ = some (.int .i64 lim) := hi.b2.c 0
    have k5 : wr.cell? ⟨w.heap.size + 1, 0, none⟩ = some (.int .i64 0) := hi.b1.c 0
    have k6 : wr.cell? ⟨w.heap.size + 1, 1, none⟩ = some (.slice none 0 0) := hi.b1.c 1
    have k7 : wr.frozen? ⟨w.heap.size + 1, 0, none⟩ = false := hi.b1.f 0
    have k8 : wr.frozen? ⟨w.heap.size + 1, 1, none⟩ = false := hi.b1.f 1
    have k2 : wr.frozen? ⟨w.heap.size + 1 + 1, 1, none⟩ = false := hi.b2.f 1
    clear hm
    by_cases hlt : j < n
    · obtain ⟨b, o, x, rfl, _, hbl, hx, hd0, hd1, hd2, hd3⟩ := it_cells (hr.below hi.be) hlt
      have hjn : (j : Int) < n := by omega
      have h0j : (0 : Int) ≤ j := by omega
      have Hi := Lib.hid hi
      have Hx := Lib.hid hx
      have hnews : Rd (wr.drew.alloc (.cells #[.int .i64 x.t, .int .i64 x.r, .int .i64 x.i, .int .i64 x.k] 36)) T 4 (some ⟨wr.heap.size, 0, none⟩) 1 (flat itc [x]) := (Rd.blit rfl).any
      have Hnews := Lib.hid hnews
      have h1 := itc_one [x]
      have H1 := Lib.hid h1
      have hsz : w.heap.size + 3 ≤ wr.heap.size := hi.b2.lt
      have k3 : ∀ ob, (wr.alloc ob).cell? ⟨w.heap.size + 1 + 1, 1, none⟩ = some (.slice A1 j c1) := fun ob => (hi.b2.alloc ob).c 1
      clear hi hx hnews h1
      go_wp2_with fail
      go_region_law ((refine step_append_any _ Tryd.underlying28 it_elem rfl (by omega) rfl rfl rfl (Hi.out.own.drew.alloc _) rfl Hnews.out H1.out (by omega) (by simp; omega) rfl (flat_append _ _).symm ?_; intro A2 c2 w1 hown1 hg1 hat1; obtain ⟨m1, m2⟩ := Hi.out.mid hg1))
      all_goals
        have hnext := Hi.out.step Hx.out hown1 hg1
        have Hnext := Lib.hid hnext
        clear hnext m1 m2
        go_wp2_with fail
        go_roundg (n - (j + 1))
        case measure => have := Hm.out; omega
        case rel => exact ⟨j + 1, A2, c2, rfl, by omega, by go_num, Hnext.out⟩
    · obtain rfl : j = n := by omega
      go_wp2_with fail
      have r1 := Rd.of_own hi.own
      rw [List.take_of_length_le (Nat.le_of_eq Hl.out)] at r1
      refine bodyPost_ret (by simp [results, Tryd.results7, go_sem, k5, k6]; rfl) rfl ?_
      refine ⟨A1, j, c1, rfl, ?_, (hi.be.setCell (by show w.heap.size ≤ w.heap.size + 1; omega) _).setCell (by show w.heap.size ≤ w.heap.size + 1; omega) _⟩
      exact ((r1.setCell (by show ¬ w.heap.size + 3 ≤ w.heap.size + 1; omega) _).setCell (by show ¬ w.heap.size + 3 ≤ w.heap.size + 1; omega) _).mono (fun b hb => by omega)
end Go.Proofs.YtodjjcnidgmkmaaDoor
