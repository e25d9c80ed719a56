/- Walk of chunk.Put. -/
import Derived.Test.YtcdneioaifmilaaDoorWalkA
import Derived.Deep.RegionHeld3
namespace Go.Proofs.YtcdneioaifmilaaDoor
open Go.RowKit
set_option linter.unusedVariables false
set_option linter.unusedSimpArgs false

def putHave (bk : Int) (h : List UInt8) (key off : Int) : List UInt8 := if key ≠ bk ∨ off = 0 then [] else h
/-- What Put is to return: the box's key and text, the text told, the number, whether it is whole. -/
def putR (bk : Int) (h : List UInt8) (key off : Int) (piece : List UInt8) (last : Bool) : Int × List UInt8 × List UInt8 × Int × Bool :=
  if off ≠ (putHave bk h key off).length ∨ (piece.length : Int) > 1048576 - (putHave bk h key off).length then (bk, h, [], if key ≠ bk then 0 else h.length, false)
  else if last then (key, [], putHave bk h key off ++ piece, (putHave bk h key off ++ piece).length, true)
  else (key, putHave bk h key off ++ piece, [], (putHave bk h key off ++ piece).length, false)

def PutPost (W : World) (r : Int × List UInt8 × List UInt8 × Int × Bool) (e : Ending) (w' : World) : Prop :=
  ∃ A c B d n m, e = .returned (.tuple #[.agg #[.int .i64 r.1, .slice A n c], .slice B m d, .int .i64 r.2.2.2.1, .bool r.2.2.2.2]) ∧ Rd w' T 1 A n (bs r.2.1) ∧ Rd w' T 1 B m (bs r.2.2.1) ∧ Below W.heap.size W w'

attribute [local go_sem] eqlB
/-- The refusal: region 8. -/
theorem put_refuse (bk key off : Int) (A : Option Addr) (n c : Nat) (hv : List UInt8) (B : Option Addr) (m d : Nat) (last : Bool) (w : World)
   (hr : Rd w (· < w.heap.size) 1 A n (bs hv)) (hn : n ≤ 1048576) (hm : m ≤ 1048576)
   (H N : Int) (h2 : ((key != bk) = false ∧ (off == 0) = false ∧ H = n ∧ N = n) ∨ ((key != bk) = true ∧ H = 0 ∧ N = 0) ∨ ((key != bk) = false ∧ (off == 0) = true ∧ H = 0 ∧ N = n)) (h3 : (off != H) = true ∨ (off != H) = false ∧ (m : Int) > 1048576 - H) :
   Calls Tryd.prog 10 #[.agg #[.int .i64 bk, .slice A n c], .int .i64 key, .int .i64 off, .slice B m d, .bool last] w (PutPost w (bk, hv, [], N, false)) := by
  have hlt : ¬ w.heap.size + 1 < w.heap.size := by omega
  rcases h2 with ⟨h2, h2', rfl, rfl⟩ | ⟨h2, rfl, rfl⟩ | ⟨h2, h2', rfl, rfl⟩ <;> rcases h3 with h3 | ⟨h3, h3'⟩
  all_goals try (exfalso; simp only [bne_iff_ne, beq_iff_eq, ne_eq] at h2' h3; exact h3 h2'; done)
  all_goals try (exfalso; omega)
  all_goals (try have h5 : (1048576 : Int) < m := by omega)
  all_goals (try have h5 : (1048576 : Int) - n < m := by omega)
  all_goals
    go_enter Tryd.func10, Tryd.ntmps10
    go_wp2_with (go_at_call 11; refine (clone_any A n c (bs hv) _ (hr.alloc _ |>.alloc _) (bs_one hv) (by omega)).mono ?_; rintro e w1 ⟨A1, c1, rfl, hown1, hb1⟩; obtain ⟨hc1, hf1⟩ := bcell hb1; have hz1 := hb1.size; simp only [World.size_alloc] at hz1)
    clear hc1 hf1
    obtain ⟨W0, hW0⟩ : ∃ W0, W0 = (w.alloc (Obj.cells #[Value.int IntKind.i64 bk, Value.slice A n c] 37)).alloc (Obj.cells #[Value.int IntKind.i64 0, Value.slice none 0 0] 37) := ⟨_, rfl⟩
    have F0 : Fr W0 (w.heap.size + 1) 2 W0 := by subst hW0; exact Fr.new (by simp) rfl
    have u0 : W0.cell? ⟨w.heap.size, 0, none⟩ = some (.int .i64 bk) := by subst hW0; simp [World.cell?_alloc_some]
    have u1 : W0.cell? ⟨w.heap.size, 1, none⟩ = some (.slice A n c) := by subst hW0; simp [World.cell?_alloc_some]
    have r0 : Rd W0 (· < w.heap.size) 1 A n (bs hv) := by subst hW0; exact hr.alloc _ |>.alloc _
    have b0 : Below w.heap.size w W0 := by subst hW0; exact (Below.refl _ _).alloc (Nat.le_refl _) _ |>.alloc (by simp) _
    rw [← hW0] at hb1 hown1
    clear hW0
    have F1 := F0.below hb1
    have sof : ∀ W, Fr W0 (w.heap.size + 1) 2 W → (Fr W0 (w.heap.size + 1) 2 W ∧ W.cell? ⟨w.heap.size, 0, none⟩ = some (.int .i64 bk) ∧ W.cell? ⟨w.heap.size, 1, none⟩ = some (.slice A n c) ∧ W.cell? ⟨w.heap.size + 1, 0, none⟩ = some (peek W (w.heap.size + 1) 0) ∧ W.cell? ⟨w.heap.size + 1, 1, none⟩ = some (peek W (w.heap.size + 1) 1) ∧ W.frozen? ⟨w.heap.size + 1, 0, none⟩ = false ∧ W.frozen? ⟨w.heap.size + 1, 1, none⟩ = false) := fun W F2 => ⟨F2, F2.cell (by omega) u0, F2.cell (by omega) u1, F2.pk (by omega), F2.pk (by omega), F2.fz _, F2.fz _⟩
    go_region_held3 (fun W => Fr W0 (w.heap.size + 1) 2 W ∧ W.cell? ⟨w.heap.size, 0, none⟩ = some (.int .i64 bk) ∧ W.cell? ⟨w.heap.size, 1, none⟩ = some (.slice A n c) ∧ W.cell? ⟨w.heap.size + 1, 0, none⟩ = some (peek W (w.heap.size + 1) 0) ∧ W.cell? ⟨w.heap.size + 1, 1, none⟩ = some (peek W (w.heap.size + 1) 1) ∧ W.frozen? ⟨w.heap.size + 1, 0, none⟩ = false ∧ W.frozen? ⟨w.heap.size + 1, 1, none⟩ = false) ((refine sof _ ?_; first | exact F1.drew | (go_split_ands; exact Fr.below (by assumption) (by assumption)) | (go_split_ands; exact Fr.set (Fr.set (by assumption) _ _) _ _))) (first | (go_at_call 11; refine (clone_any A n c (bs hv) _ (Fr.rd (k := 2) (by go_split_ands; assumption) r0 hlt) (bs_one hv) (by omega)).mono ?_; rintro e w2 ⟨A2, c2, rfl, hown2, hb2⟩))
    have FF := Fr.set (Fr.set (Fr.below (Fr.drew F1) hb2) 0 (.int .i64 bk)) 1 (.slice A2 n c2)
    have F2 := Fr.below (Fr.drew F1) hb2
    have p0 : w2.cell? ⟨w.heap.size + 1, 0, none⟩ = some (peek w2 (w.heap.size + 1) 0) := F2.pk (by omega)
    have p1 : w2.cell? ⟨w.heap.size + 1, 1, none⟩ = some (peek w2 (w.heap.size + 1) 1) := F2.pk (by omega)
    go_wp2_with fail
    refine bodyPost_ret (by simp [results, Tryd.results10, go_sem, p0, p1]; rfl) rfl ?_
    -- case hr => simp [results, Tryd.results10, go_sem, p0, p1]; rfl
    refine ⟨A2, c2, none, 0, n, 0, rfl, ?_, Rd.none_, b0.trans (FF.to_below (by omega))⟩
    have r2 := Rd.of_own hown2
    have hsz : w.heap.size + 2 ≤ w1.heap.size := by omega
    refine ((r2.setCell (p := ⟨w.heap.size + 1, 0, none⟩) ?_ _).setCell (p := ⟨w.heap.size + 1, 1, none⟩) ?_ _).any
    · show ¬ w1.heap.size ≤ w.heap.size + 1; omega
    · show ¬ w1.heap.size ≤ w.heap.size + 1; omega

/-- A piece that fits. -/
theorem put_own (bk key off : Int) (A : Option Addr) (n c : Nat) (hv : List UInt8) (B : Option Addr) (m d : Nat) (p : List UInt8) (last : Bool) (w : World)
   (hr : Rd w (· < w.heap.size) 1 A n (bs hv)) (hp : Rd w (· < w.heap.size) 1 B m (bs p)) (hn : n ≤ 1048576) (hm : m ≤ 1048576)
   (k : Nat) (h2 : (key != bk) = false ∧ (off == 0) = false) (h3 : (off != ((n : Nat) : Int)) = false) (h4 : (m : Int) ≤ 1048576 - (n : Nat)) (hk : n + m = k) :
   Calls Tryd.prog 10 #[.agg #[.int .i64 bk, .slice A n c], .int .i64 key, .int .i64 off, .slice B m d, .bool last] w (PutPost w (key, cond last [] (hv ++ p), cond last (hv ++ p) [], (k : Int), last)) := by
  have hlt : ¬ w.heap.size + 1 < w.heap.size := by omega
  have Hk := Lib.hid hk
  rcases h2 with ⟨h2, h2'⟩ <;> cases last <;> clear hk
  all_goals
    go_enter Tryd.func10, Tryd.ntmps10
    go_wp2_with fail
    refine (clone_any A n c _ _ (hr.alloc _ |>.alloc _) (bs_one _) (by omega)).mono ?_
    rintro e w1 ⟨A1, c1, rfl, hown1, hb1⟩
    have F1 := Fr.below (Fr.new (R := w.heap.size + 1) (k := 2) (w0 := w.alloc (Obj.cells #[Value.int IntKind.i64 bk, Value.slice A n c] 37)) (by simp) rfl) hb1
    have rp := ((hp.alloc _).alloc _).below hb1
    obtain ⟨hc1, hf1⟩ := bcell hb1
    have hz1 := hb1.size
    simp only [World.size_alloc] at hz1 hown1
    go_wp2_with (at_builtin; go_must (refine wpList_append_any _ Tryd.underlying22 u8_elem rfl (by omega) rfl rfl rfl hown1 rfl rp (bs_one p) (by omega) (by omega) Hk.out (ys := bs (hv ++ p)) (bs_append hv p).symm ?_); go_must (intro A2 c2 w2 hown2 hg2 hat2; have hlo := own_lt hown1; clear hc1 hf1; have F2 := F1.grown hg2 (fun g hg => by have := hlo g hg; simp at this ⊢; omega); clear hlo; have p0 := F2.pk (i := 0) (by decide); have p1 := F2.pk (i := 1) (by decide); have p2 := F2.fz 0; have p3 := F2.fz 1))
    all_goals
      refine bodyPost_ret (by simp [results, Tryd.results10, go_sem, p0, p1, p2, p3]; rfl) rfl ?_
      have b0 : Below w.heap.size w ((w.alloc (Obj.cells #[Value.int IntKind.i64 bk, Value.slice A n c] 37)).alloc (Obj.cells #[Value.int IntKind.i64 0, Value.slice none 0 0] 37)) := (Below.refl _ _).alloc (Nat.le_refl _) _ |>.alloc (by simp) _
      have q0 : ¬ (w.heap.size + 1 + 1 ≤ w.heap.size + 1) := by omega
      first
        | exact ⟨A2, c2, none, 0, k, 0, rfl, (((Rd.of_own hown2).setCell (p := ⟨w.heap.size + 1, 0, none⟩) q0 _).setCell (p := ⟨w.heap.size + 1, 1, none⟩) q0 _).any, Rd.none_, b0.trans (((F2.set 0 _).set 1 _).to_below (by omega))⟩
        | exact ⟨none, 0, A2, c2, 0, k, rfl, Rd.none_, (((Rd.of_own hown2).setCell (p := ⟨w.heap.size + 1, 0, none⟩) q0 _).setCell (p := ⟨w.heap.size + 1, 1, none⟩) q0 _).any, b0.trans (((F2.set 0 _).set 1 _).to_below (by omega))⟩

/-- A piece that fits. -/
theorem put_new (bk key : Int) (A : Option Addr) (n c : Nat) (hv : List UInt8) (B : Option Addr) (m d : Nat) (p : List UInt8) (last : Bool) (w : World)
   (hr : Rd w (· < w.heap.size) 1 A n (bs hv)) (hp : Rd w (· < w.heap.size) 1 B m (bs p)) (hn : n ≤ 1048576) (hm : m ≤ 1048576)
   (k : Nat) (h2 : (key != bk) = true ∨ (key != bk) = false) (hk : 0 + m = k) :
   Calls Tryd.prog 10 #[.agg #[.int .i64 bk, .slice A n c], .int .i64 key, .int .i64 0, .slice B m d, .bool last] w (PutPost w (key, cond last [] ([] ++ p), cond last ([] ++ p) [], (k : Int), last)) := by
  have hlt : ¬ w.heap.size + 1 < w.heap.size := by omega
  have Hk := Lib.hid hk
  rcases h2 with h2 | h2 <;> cases last <;> clear hk
  all_goals
    go_enter Tryd.func10, Tryd.ntmps10
    go_wp2_with fail
    refine (clone_any A n c _ _ (hr.alloc _ |>.alloc _) (bs_one _) (by omega)).mono ?_
    rintro e w1 ⟨A1, c1, rfl, hown1, hb1⟩
    have F1 := Fr.below (Fr.new (R := w.heap.size + 1) (k := 2) (w0 := w.alloc (Obj.cells #[Value.int IntKind.i64 bk, Value.slice A n c] 37)) (by simp) rfl) hb1
    have rp := ((hp.alloc _).alloc _).below hb1
    obtain ⟨hc1, hf1⟩ := bcell hb1
    have hz1 := hb1.size
    simp only [World.size_alloc] at hz1 hown1
    go_wp2_with (at_builtin; go_must (refine wpList_append_any _ Tryd.underlying22 u8_elem rfl (by omega) rfl rfl rfl (own_nil w1 w1.heap.size 5 1 0 rfl) rfl rp (bs_one p) (by omega) (Nat.le_refl _) Hk.out (ys := bs ([] ++ p)) rfl ?_); go_must (intro A2 c2 w2 hown2 hg2 hat2; have hlo := own_lt (own_nil w1 w1.heap.size 5 1 0 rfl); clear hc1 hf1; have F2 := F1.grown hg2 (fun g hg => by have := hlo g hg; simp at this ⊢; omega); clear hlo; have p0 := F2.pk (i := 0) (by decide); have p1 := F2.pk (i := 1) (by decide); have p2 := F2.fz 0; have p3 := F2.fz 1))
    all_goals
      refine bodyPost_ret (by simp [results, Tryd.results10, go_sem, p0, p1, p2, p3]; rfl) rfl ?_
      have b0 : Below w.heap.size w ((w.alloc (Obj.cells #[Value.int IntKind.i64 bk, Value.slice A n c] 37)).alloc (Obj.cells #[Value.int IntKind.i64 0, Value.slice none 0 0] 37)) := (Below.refl _ _).alloc (Nat.le_refl _) _ |>.alloc (by simp) _
      have q0 : ¬ (w1.heap.size ≤ w.heap.size + 1) := by omega
      first
        | exact ⟨A2, c2, none, 0, k, 0, rfl, (((Rd.of_own hown2).setCell (p := ⟨w.heap.size + 1, 0, none⟩) q0 _).setCell (p := ⟨w.heap.size + 1, 1, none⟩) q0 _).any, Rd.none_, b0.trans (((F2.set 0 _).set 1 _).to_below (by omega))⟩
        | exact ⟨none, 0, A2, c2, 0, k, rfl, Rd.none_, (((Rd.of_own hown2).setCell (p := ⟨w.heap.size + 1, 0, none⟩) q0 _).setCell (p := ⟨w.heap.size + 1, 1, none⟩) q0 _).any, b0.trans (((F2.set 0 _).set 1 _).to_below (by omega))⟩
end Go.Proofs.YtcdneioaifmilaaDoor
