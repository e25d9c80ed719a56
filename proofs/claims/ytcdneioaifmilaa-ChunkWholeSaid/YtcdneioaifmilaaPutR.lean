/- Walk of tollbarref12.Put. -/
import Derived.Test.YtcdneioaifmilaaPut
namespace Go.Proofs.Ytcdneioaifmilaa
open Go.RowKit
set_option linter.unusedVariables false
set_option linter.unusedSimpArgs false
/-- It hands back what it got. -/
theorem refPut_refuse (bk key off : Int) (A : Option Addr) (n c : Nat) (hv : List UInt8) (B : Option Addr) (m d : Nat) (last : Bool) (w : World)
   (hr : Rd w (· < w.heap.size) 1 A n (bs hv)) (hn : n ≤ 1048576)
   (N : Int) (h2 : ((key != bk) = true ∧ N = 0) ∨ ((key != bk) = false ∧ (off != (n : Int)) = true ∧ N = n)) (h3 : (off != 0) = true) :
   Calls Try.prog 8 #[.agg #[.int .i64 bk, .slice A n c], .int .i64 key, .int .i64 off, .slice B m d, .bool last] w (PutPost w (bk, hv, [], N, false)) := by
  rcases h2 with ⟨h2, rfl⟩ | ⟨h2, h2', rfl⟩
  all_goals
    go_enter Try.func8, Try.ntmps8
    go_wp2_with fail
    refine bodyPost_ret (by simp [results, Try.results8, go_sem]; rfl) rfl ?_
    exact ⟨A, c, none, 0, n, 0, rfl, ((hr.alloc _).alloc _).any, Rd.none_, (Below.refl _ _).alloc (Nat.le_refl _) _ |>.alloc (by simp) _⟩

theorem refPut_own (bk key off : Int) (A : Option Addr) (n c : Nat) (hv : List UInt8) (B : Option Addr) (m d : Nat) (p : List UInt8) (last : Bool) (w : World)
   (hr : Rd w (· < w.heap.size) 1 A n (bs hv)) (hp : Rd w (· < w.heap.size) 1 B m (bs p)) (hn : n ≤ 1048576) (hm : m ≤ 1048576)
   (k : Nat) (h2 : (key != bk) = false ∧ (off != 0) = true) (h3 : (off != ((n : Nat) : Int)) = false) (h4 : ¬ (1048576 : Int) < n + m) (hk : n + m = k) :
   Calls Try.prog 8 #[.agg #[.int .i64 bk, .slice A n c], .int .i64 key, .int .i64 off, .slice B m d, .bool last] w (PutPost w (key, cond last [] (hv ++ p), cond last (hv ++ p) [], (k : Int), last)) := by
  have Hk := Lib.hid hk
  have b0 : Below w.heap.size w ((w.alloc (Obj.cells #[Value.int IntKind.i64 bk, Value.slice A n c] 26)).alloc (Obj.cells #[Value.int IntKind.i64 0, Value.slice none 0 0] 26)) := (Below.refl _ _).alloc (Nat.le_refl _) _ |>.alloc (by simp) _
  have F := Fr.new (R := w.heap.size + 1) (k := 2) (w0 := w.alloc (Obj.cells #[Value.int IntKind.i64 bk, Value.slice A n c] 26)) (cs := #[Value.int IntKind.i64 0, Value.slice none 0 0]) (t := 26) (by simp) rfl

  obtain ⟨h2, h2'⟩ := h2
  cases last <;> clear hk
  all_goals
    go_enter Try.func8, Try.ntmps8
    go_wp2_with (first | (at_builtin; refine wpList_append_any ((w.alloc (Obj.cells #[Value.int IntKind.i64 bk, Value.slice A n c] 26)).alloc (Obj.cells #[Value.int IntKind.i64 0, Value.slice none 0 0] 26)) (s := .tmp 36) (x := .tmp 38) Try.underlying23 u8_elem rfl (by omega) rfl rfl rfl (own_nil _ ((w.alloc (Obj.cells #[Value.int IntKind.i64 bk, Value.slice A n c] 26)).alloc (Obj.cells #[Value.int IntKind.i64 0, Value.slice none 0 0] 26)).heap.size 5 1 0 rfl) rfl ((hr.alloc _).alloc _) (bs_one _) (by omega) (by first | exact Nat.le_refl _ | (simp; omega)) (Nat.zero_add n) (List.nil_append _) ?_; intro A1 c1 w1 hown1 hg1 hat1; have hlo1 := own_lt (own_nil ((w.alloc (Obj.cells #[Value.int IntKind.i64 bk, Value.slice A n c] 26)).alloc (Obj.cells #[Value.int IntKind.i64 0, Value.slice none 0 0] 26)) ((w.alloc (Obj.cells #[Value.int IntKind.i64 bk, Value.slice A n c] 26)).alloc (Obj.cells #[Value.int IntKind.i64 0, Value.slice none 0 0] 26)).heap.size 5 1 0 rfl); have F1 := F.grown hg1 (fun g hg => by have := hlo1 g hg; simp at this ⊢; omega); have z1 := hg1.size; simp only [World.size_alloc] at z1; clear hlo1; have rp := ((hp.alloc _).alloc _).grown hg1 (fun g hg => by simp at hg)) | (at_builtin; refine wpList_append_any _ (s := .tmp 48) (x := .tmp 49) Try.underlying23 u8_elem rfl (by omega) rfl rfl rfl hown1 rfl rp (bs_one _) (by omega) (by first | exact Nat.le_refl _ | (simp; omega)) Hk.out (ys := bs (hv ++ p)) (bs_append hv p).symm ?_; intro A2 c2 w2 hown2 hg2 hat2; have hlo2 := own_lt hown1; have F2 := F1.grown hg2 (fun g hg => by have := hlo2 g hg; simp at this ⊢; omega); have z2 := hg2.size; clear hlo2; have p0 := F2.pk (i := 0) (by decide); have p1 := F2.pk (i := 1) (by decide); have p2 := F2.fz 0; have p3 := F2.fz 1))
    
    refine bodyPost_ret (by simp [results, Try.results8, go_sem, p0, p1, p2, p3]; rfl) rfl ?_
    have q0 : ¬ (((w.alloc (Obj.cells #[Value.int IntKind.i64 bk, Value.slice A n c] 26)).alloc (Obj.cells #[Value.int IntKind.i64 0, Value.slice none 0 0] 26)).heap.size ≤ w.heap.size + 1) := by simp
    first
      | exact ⟨A2, c2, none, 0, k, 0, rfl, (((Rd.of_own hown2).setCell (p := ⟨w.heap.size + 1, 0, none⟩) q0 _).setCell (p := ⟨w.heap.size + 1, 1, none⟩) q0 _).any, Rd.none_, b0.trans (((F2.set 0 _).set 1 _).to_below (by omega))⟩
      | exact ⟨none, 0, A2, c2, 0, k, rfl, Rd.none_, (((Rd.of_own hown2).setCell (p := ⟨w.heap.size + 1, 0, none⟩) q0 _).setCell (p := ⟨w.heap.size + 1, 1, none⟩) q0 _).any, b0.trans (((F2.set 0 _).set 1 _).to_below (by omega))⟩

theorem refPut_long (bk key off : Int) (A : Option Addr) (n c : Nat) (hv : List UInt8) (B : Option Addr) (m d : Nat) (p : List UInt8) (last : Bool) (w : World)
   (hr : Rd w (· < w.heap.size) 1 A n (bs hv)) (hp : Rd w (· < w.heap.size) 1 B m (bs p)) (hn : n ≤ 1048576) (hm : m ≤ 1048576)
   (h2 : (key != bk) = false ∧ (off != 0) = true) (h3 : (off != ((n : Nat) : Int)) = false) (h4 : (1048576 : Int) < n + m) :
   Calls Try.prog 8 #[.agg #[.int .i64 bk, .slice A n c], .int .i64 key, .int .i64 off, .slice B m d, .bool last] w (PutPost w (bk, hv, [], (n : Int), false)) := by
  have b0 : Below w.heap.size w ((w.alloc (Obj.cells #[Value.int IntKind.i64 bk, Value.slice A n c] 26)).alloc (Obj.cells #[Value.int IntKind.i64 0, Value.slice none 0 0] 26)) := (Below.refl _ _).alloc (Nat.le_refl _) _ |>.alloc (by simp) _
  have F := Fr.new (R := w.heap.size + 1) (k := 2) (w0 := w.alloc (Obj.cells #[Value.int IntKind.i64 bk, Value.slice A n c] 26)) (cs := #[Value.int IntKind.i64 0, Value.slice none 0 0]) (t := 26) (by simp) rfl

  obtain ⟨h2, h2'⟩ := h2
  · skip
    go_enter Try.func8, Try.ntmps8
    go_wp2_with (first | (at_builtin; refine wpList_append_any ((w.alloc (Obj.cells #[Value.int IntKind.i64 bk, Value.slice A n c] 26)).alloc (Obj.cells #[Value.int IntKind.i64 0, Value.slice none 0 0] 26)) (s := .tmp 36) (x := .tmp 38) Try.underlying23 u8_elem rfl (by omega) rfl rfl rfl (own_nil _ ((w.alloc (Obj.cells #[Value.int IntKind.i64 bk, Value.slice A n c] 26)).alloc (Obj.cells #[Value.int IntKind.i64 0, Value.slice none 0 0] 26)).heap.size 5 1 0 rfl) rfl ((hr.alloc _).alloc _) (bs_one _) (by omega) (by first | exact Nat.le_refl _ | (simp; omega)) (Nat.zero_add n) (List.nil_append _) ?_; intro A1 c1 w1 hown1 hg1 hat1; have hlo1 := own_lt (own_nil ((w.alloc (Obj.cells #[Value.int IntKind.i64 bk, Value.slice A n c] 26)).alloc (Obj.cells #[Value.int IntKind.i64 0, Value.slice none 0 0] 26)) ((w.alloc (Obj.cells #[Value.int IntKind.i64 bk, Value.slice A n c] 26)).alloc (Obj.cells #[Value.int IntKind.i64 0, Value.slice none 0 0] 26)).heap.size 5 1 0 rfl); have F1 := F.grown hg1 (fun g hg => by have := hlo1 g hg; simp at this ⊢; omega); have z1 := hg1.size; simp only [World.size_alloc] at z1; clear hlo1; have rp := ((hr.alloc _).alloc _).grown hg1 (fun g hg => by simp at hg); have p0 := F1.pk (i := 0) (by decide); have p1 := F1.pk (i := 1) (by decide); have p2 := F1.fz 0; have p3 := F1.fz 1; have u0 := F1.cell (g := w.heap.size) (i := 0) (v := .int .i64 bk) (by omega) (by simp [World.cell?_alloc_some]); have u1 := F1.cell (g := w.heap.size) (i := 1) (v := .slice A n c) (by omega) (by simp [World.cell?_alloc_some])))
    
    refine bodyPost_ret (by simp [results, Try.results8, go_sem, p0, p1, p2, p3]; rfl) rfl ?_
    have q0 : ¬ (w.heap.size + 1 < w.heap.size) := by omega
    exact ⟨A, c, none, 0, n, 0, rfl, ((rp.setCell (p := ⟨w.heap.size + 1, 0, none⟩) q0 _).setCell (p := ⟨w.heap.size + 1, 1, none⟩) q0 _).any, Rd.none_, b0.trans (((F1.set 0 _).set 1 _).to_below (by omega))⟩

theorem refPut_new (bk key : Int) (A : Option Addr) (n c : Nat) (hv : List UInt8) (B : Option Addr) (m d : Nat) (p : List UInt8) (last : Bool) (w : World)
   (hp : Rd w (· < w.heap.size) 1 B m (bs p)) (hm : m ≤ 1048576)
   (k : Nat) (h2 : (key != bk) = true ∨ (key != bk) = false) (hk : 0 + m = k) :
   Calls Try.prog 8 #[.agg #[.int .i64 bk, .slice A n c], .int .i64 key, .int .i64 0, .slice B m d, .bool last] w (PutPost w (key, cond last [] ([] ++ p), cond last ([] ++ p) [], (k : Int), last)) := by
  have Hk := Lib.hid hk
  have b0 : Below w.heap.size w ((w.alloc (Obj.cells #[Value.int IntKind.i64 bk, Value.slice A n c] 26)).alloc (Obj.cells #[Value.int IntKind.i64 0, Value.slice none 0 0] 26)) := (Below.refl _ _).alloc (Nat.le_refl _) _ |>.alloc (by simp) _
  have F := Fr.new (R := w.heap.size + 1) (k := 2) (w0 := w.alloc (Obj.cells #[Value.int IntKind.i64 bk, Value.slice A n c] 26)) (cs := #[Value.int IntKind.i64 0, Value.slice none 0 0]) (t := 26) (by simp) rfl

  rcases h2 with h2 | h2 <;> cases last <;> clear hk
  all_goals
    go_enter Try.func8, Try.ntmps8
    go_wp2_with (at_builtin; refine wpList_append_any _ (s := .tmp 48) (x := .tmp 49) Try.underlying23 u8_elem rfl (by omega) rfl rfl rfl (own_nil _ ((w.alloc (Obj.cells #[Value.int IntKind.i64 bk, Value.slice A n c] 26)).alloc (Obj.cells #[Value.int IntKind.i64 0, Value.slice none 0 0] 26)).heap.size 5 1 0 rfl) rfl ((hp.alloc _).alloc _) (bs_one _) (by omega) (by first | exact Nat.le_refl _ | (simp; omega)) Hk.out (ys := bs ([] ++ p)) rfl ?_; intro A2 c2 w2 hown2 hg2 hat2; have hlo2 := own_lt (own_nil ((w.alloc (Obj.cells #[Value.int IntKind.i64 bk, Value.slice A n c] 26)).alloc (Obj.cells #[Value.int IntKind.i64 0, Value.slice none 0 0] 26)) ((w.alloc (Obj.cells #[Value.int IntKind.i64 bk, Value.slice A n c] 26)).alloc (Obj.cells #[Value.int IntKind.i64 0, Value.slice none 0 0] 26)).heap.size 5 1 0 rfl); have F2 := F.grown hg2 (fun g hg => by have := hlo2 g hg; simp at this ⊢; omega); have z2 := hg2.size; clear hlo2; have p0 := F2.pk (i := 0) (by decide); have p1 := F2.pk (i := 1) (by decide); have p2 := F2.fz 0; have p3 := F2.fz 1)
    
    refine bodyPost_ret (by simp [results, Try.results8, go_sem, p0, p1, p2, p3]; rfl) rfl ?_
    have q0 : ¬ (((w.alloc (Obj.cells #[Value.int IntKind.i64 bk, Value.slice A n c] 26)).alloc (Obj.cells #[Value.int IntKind.i64 0, Value.slice none 0 0] 26)).heap.size ≤ w.heap.size + 1) := by simp
    first
      | exact ⟨A2, c2, none, 0, k, 0, rfl, (((Rd.of_own hown2).setCell (p := ⟨w.heap.size + 1, 0, none⟩) q0 _).setCell (p := ⟨w.heap.size + 1, 1, none⟩) q0 _).any, Rd.none_, b0.trans (((F2.set 0 _).set 1 _).to_below (by omega))⟩
      | exact ⟨none, 0, A2, c2, 0, k, rfl, Rd.none_, (((Rd.of_own hown2).setCell (p := ⟨w.heap.size + 1, 0, none⟩) q0 _).setCell (p := ⟨w.heap.size + 1, 1, none⟩) q0 _).any, b0.trans (((F2.set 0 _).set 1 _).to_below (by omega))⟩

end Go.Proofs.Ytcdneioaifmilaa
