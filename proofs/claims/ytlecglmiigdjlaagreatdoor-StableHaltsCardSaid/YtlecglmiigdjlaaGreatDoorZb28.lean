/- The document's Take: an entry off what is read.
   The document's Decode of an entry. -/
import Derived.Test.YtlecglmiigdjlaaGreatDoorZb6
import Derived.Test.YtlecglmiigdjlaaGreatDoorZb12
namespace Go.Proofs.YtlecglmiigdjlaaGreatDoor
open Go.RowKit
set_option maxRecDepth 100000
set_option linter.unusedVariables false
set_option linter.unusedSimpArgs false
structure Tk (ok : Nat → Prop) (w W : World) (A : Option Addr) (n c : Nat) (k : Int) (l : List UInt8) (a b e : Int) : Prop where
  x1 : Bx W w.heap.size #[.slice A n c, .int .i64 k]
  x2 : Bx W (w.heap.size + 1) #[.slice none 0 0, .int .i64 0]
  x3 : Bx W (w.heap.size + 2) #[.int .i64 0, .int .i64 0, .int .i64 0, .slice none 0 0]
  x4 : Bx W (w.heap.size + 3) #[.int .i64 a, .int .i64 b, .int .i64 e, .slice none 0 0]
  rd : Rd W ok 1 A n (bs l)
  nc : n ≤ c
  cm : c ≤ maxLen
  be : Below w.heap.size w W
theorem nob2 (A : Option Addr) (n c : Nat) (k : Int) : ∀ (i : Nat) (z : Int), #[Value.slice A n c, .int .i64 k][i]? ≠ some (.int .u8 z) := by
  intro i z; rcases i with _ | _ | i <;> simp
theorem nob4 (a b e : Int) (A : Option Addr) (n c : Nat) : ∀ (i : Nat) (z : Int), #[Value.int .i64 a, .int .i64 b, .int .i64 e, .slice A n c][i]? ≠ some (.int .u8 z) := by
  intro i z; rcases i with _ | _ | _ | _ | i <;> simp
theorem setB {W : World} {ok : Nat → Prop} {A : Option Addr} {n g i : Nat} {l : List UInt8} (h : Rd W (fun b => ok b ∧ b ≠ g) 1 A n (bs l)) (v : Value) : Rd (W.setCell ⟨g, i, none⟩ v) (fun b => ok b ∧ b ≠ g) 1 A n (bs l) :=
  h.setCell (p := ⟨g, i, none⟩) (fun h => h.2 rfl) v
theorem Tk.turn {ok : Nat → Prop} {w W w' : World} {A A' : Option Addr} {n c n' c' : Nat} {k k' : Int} {l l' : List UInt8} {a b e : Int} (h : Tk ok w W A n c k l a b e) (r : Rd w' ok 1 A' n' (bs l')) (h1 : n' ≤ c') (h2 : c' ≤ maxLen) (hb : Below W.heap.size W w') :
    Tk ok w ((w'.setCell ⟨w.heap.size, 0, none⟩ (.slice A' n' c')).setCell ⟨w.heap.size, 1, none⟩ (.int .i64 k')) A' n' c' k' l' a b e := by
  have y1 := h.x1.below hb
  have hb2 := h.be.trans (hb.mono h.be.size)
  refine ⟨by simpa using (y1.set 0 (.slice A' n' c')).set 1 (.int .i64 k'), ?_, ?_, ?_, (setB (setB (r.off_box y1 (nob2 _ _ _ _)) _) _).mono fun b hb => hb.1, h1, h2, (hb2.setCell (p := ⟨w.heap.size, 0, none⟩) (Nat.le_refl _) _).setCell (p := ⟨w.heap.size, 1, none⟩) (Nat.le_refl _) _⟩
  · exact ((h.x2.below hb).far (p := ⟨w.heap.size, 0, none⟩) (by show w.heap.size + 1 ≠ w.heap.size; omega) _).far (p := ⟨w.heap.size, 1, none⟩) (by show w.heap.size + 1 ≠ w.heap.size; omega) _
  · exact ((h.x3.below hb).far (p := ⟨w.heap.size, 0, none⟩) (by show w.heap.size + 2 ≠ w.heap.size; omega) _).far (p := ⟨w.heap.size, 1, none⟩) (by show w.heap.size + 2 ≠ w.heap.size; omega) _
  · exact ((h.x4.below hb).far (p := ⟨w.heap.size, 0, none⟩) (by show w.heap.size + 3 ≠ w.heap.size; omega) _).far (p := ⟨w.heap.size, 1, none⟩) (by show w.heap.size + 3 ≠ w.heap.size; omega) _
theorem Tk.put {ok : Nat → Prop} {w W : World} {A : Option Addr} {n c : Nat} {k : Int} {l : List UInt8} {a b e : Int} (h : Tk ok w W A n c k l a b e) (i : Nat) (v : Value) :
    Bx (W.setCell ⟨w.heap.size + 3, i, none⟩ v) w.heap.size #[.slice A n c, .int .i64 k] ∧ Bx (W.setCell ⟨w.heap.size + 3, i, none⟩ v) (w.heap.size + 1) #[.slice none 0 0, .int .i64 0] ∧ Bx (W.setCell ⟨w.heap.size + 3, i, none⟩ v) (w.heap.size + 2) #[.int .i64 0, .int .i64 0, .int .i64 0, .slice none 0 0]
    ∧ Bx (W.setCell ⟨w.heap.size + 3, i, none⟩ v) (w.heap.size + 3) (#[.int .i64 a, .int .i64 b, .int .i64 e, .slice none 0 0].setIfInBounds i v) ∧ Rd (W.setCell ⟨w.heap.size + 3, i, none⟩ v) ok 1 A n (bs l) ∧ Below w.heap.size w (W.setCell ⟨w.heap.size + 3, i, none⟩ v) :=
  ⟨h.x1.far (p := ⟨w.heap.size + 3, i, none⟩) (by show w.heap.size ≠ w.heap.size + 3; omega) _, h.x2.far (p := ⟨w.heap.size + 3, i, none⟩) (by show w.heap.size + 1 ≠ w.heap.size + 3; omega) _, h.x3.far (p := ⟨w.heap.size + 3, i, none⟩) (by show w.heap.size + 2 ≠ w.heap.size + 3; omega) _,
    h.x4.set i v, (setB (h.rd.off_box h.x4 (nob4 _ _ _ _ _ _)) _).mono fun b hb => hb.1, h.be.setCell (p := ⟨w.heap.size + 3, i, none⟩) (by show w.heap.size ≤ w.heap.size + 3; omega) _⟩
theorem Tk.put0 {ok : Nat → Prop} {w W : World} {A : Option Addr} {n c : Nat} {k : Int} {l : List UInt8} {a b e : Int} (h : Tk ok w W A n c k l a b e) (v : Int) : Tk ok w (W.setCell ⟨w.heap.size + 3, 0, none⟩ (.int .i64 v)) A n c k l v b e := by
  obtain ⟨h1, h2, h3, h4, h5, h6⟩ := h.put 0 (.int .i64 v)
  exact ⟨h1, h2, h3, by simpa using h4, h5, h.nc, h.cm, h6⟩
theorem Tk.put1 {ok : Nat → Prop} {w W : World} {A : Option Addr} {n c : Nat} {k : Int} {l : List UInt8} {a b e : Int} (h : Tk ok w W A n c k l a b e) (v : Int) : Tk ok w (W.setCell ⟨w.heap.size + 3, 1, none⟩ (.int .i64 v)) A n c k l a v e := by
  obtain ⟨h1, h2, h3, h4, h5, h6⟩ := h.put 1 (.int .i64 v)
  exact ⟨h1, h2, h3, by simpa using h4, h5, h.nc, h.cm, h6⟩
theorem Tk.put2 {ok : Nat → Prop} {w W : World} {A : Option Addr} {n c : Nat} {k : Int} {l : List UInt8} {a b e : Int} (h : Tk ok w W A n c k l a b e) (v : Int) : Tk ok w (W.setCell ⟨w.heap.size + 3, 2, none⟩ (.int .i64 v)) A n c k l a b v := by
  obtain ⟨h1, h2, h3, h4, h5, h6⟩ := h.put 2 (.int .i64 v)
  exact ⟨h1, h2, h3, by simpa using h4, h5, h.nc, h.cm, h6⟩
theorem Tk.cells {ok : Nat → Prop} {w W : World} {A : Option Addr} {n c : Nat} {k : Int} {l : List UInt8} {a b e : Int} (h : Tk ok w W A n c k l a b e) : W.cell? ⟨w.heap.size, 0, none⟩ = some (.slice A n c) ∧ W.cell? ⟨w.heap.size, 1, none⟩ = some (.int .i64 k) ∧ W.frozen? ⟨w.heap.size, 0, none⟩ = false ∧ W.frozen? ⟨w.heap.size, 1, none⟩ = false ∧
    W.cell? ⟨w.heap.size + 3, 0, none⟩ = some (.int .i64 a) ∧ W.cell? ⟨w.heap.size + 3, 1, none⟩ = some (.int .i64 b) ∧ W.cell? ⟨w.heap.size + 3, 2, none⟩ = some (.int .i64 e) ∧ W.cell? ⟨w.heap.size + 3, 3, none⟩ = some (.slice none 0 0) ∧ W.frozen? ⟨w.heap.size + 3, 0, none⟩ = false ∧ W.frozen? ⟨w.heap.size + 3, 1, none⟩ = false ∧ W.frozen? ⟨w.heap.size + 3, 2, none⟩ = false ∧ W.frozen? ⟨w.heap.size + 3, 3, none⟩ = false :=
  ⟨h.x1.c 0, h.x1.c 1, h.x1.f 0, h.x1.f 1, h.x4.c 0, h.x4.c 1, h.x4.c 2, h.x4.c 3, h.x4.f 0, h.x4.f 1, h.x4.f 2, h.x4.f 3⟩
def TkPost (W : World) (ok : Nat → Prop) (s : RdS) (x : EnS) (e : Ending) (w' : World) : Prop := ∃ A n c D m dc, e = .returned (.tuple #[.agg #[.slice A n c, .int .i64 s.2], .agg #[.int .i64 (x.1 : Nat), .int .i64 (x.2.1 : Nat), .int .i64 (x.2.2.1 : Nat), .slice D m dc]]) ∧ Rd w' ok 1 A n (bs s.1) ∧ Rd w' ok 1 D m (bs x.2.2.2) ∧ n ≤ c ∧ c ≤ maxLen ∧ m ≤ dc ∧ dc ≤ maxLen ∧ Below W.heap.size W w'
theorem six {ok : Nat → Prop} {W : World} {A : Option Addr} {n g : Nat} {l : List UInt8} (r : Rd W ok 1 A n (bs l)) (x2 : Bx W (g + 1) #[.slice none 0 0, .int .i64 0]) (x3 : Bx W (g + 2) #[.int .i64 0, .int .i64 0, .int .i64 0, .slice none 0 0]) (a1 a2 a3 a4 a5 a6 : Value) :
    Rd ((((((W.setCell ⟨g + 1, 0, none⟩ a1).setCell ⟨g + 1, 1, none⟩ a2).setCell ⟨g + 2, 0, none⟩ a3).setCell ⟨g + 2, 1, none⟩ a4).setCell ⟨g + 2, 2, none⟩ a5).setCell ⟨g + 2, 3, none⟩ a6) ok 1 A n (bs l) := by
  have q := (r.off_box x2 (nob2 _ _ _ _)).off_box x3 (nob4 _ _ _ _ _ _)
  have n1 : ¬ ((ok (g + 1) ∧ g + 1 ≠ g + 1) ∧ g + 1 ≠ g + 2) := fun h => h.1.2 rfl
  have n2 : ¬ ((ok (g + 2) ∧ g + 2 ≠ g + 1) ∧ g + 2 ≠ g + 2) := fun h => h.2 rfl
  exact ((((((q.setCell (p := ⟨g + 1, 0, none⟩) n1 a1).setCell (p := ⟨g + 1, 1, none⟩) n1 a2).setCell (p := ⟨g + 2, 0, none⟩) n2 a3).setCell (p := ⟨g + 2, 1, none⟩) n2 a4).setCell (p := ⟨g + 2, 2, none⟩) n2 a5).setCell (p := ⟨g + 2, 3, none⟩) n2 a6).mono fun b hb => hb.1.1
theorem six_below {w W : World} (h : Below w.heap.size w W) (a1 a2 a3 a4 a5 a6 : Value) :
    Below w.heap.size w ((((((W.setCell ⟨w.heap.size + 1, 0, none⟩ a1).setCell ⟨w.heap.size + 1, 1, none⟩ a2).setCell ⟨w.heap.size + 2, 0, none⟩ a3).setCell ⟨w.heap.size + 2, 1, none⟩ a4).setCell ⟨w.heap.size + 2, 2, none⟩ a5).setCell ⟨w.heap.size + 2, 3, none⟩ a6).drew := by
  have n1 : w.heap.size ≤ w.heap.size + 1 := by omega
  have n2 : w.heap.size ≤ w.heap.size + 2 := by omega
  have q := (((((h.setCell (p := ⟨w.heap.size + 1, 0, none⟩) n1 a1).setCell (p := ⟨w.heap.size + 1, 1, none⟩) n1 a2).setCell (p := ⟨w.heap.size + 2, 0, none⟩) n2 a3).setCell (p := ⟨w.heap.size + 2, 1, none⟩) n2 a4).setCell (p := ⟨w.heap.size + 2, 2, none⟩) n2 a5).setCell (p := ⟨w.heap.size + 2, 3, none⟩) n2 a6
  exact q.drew
set_option maxHeartbeats 3200000 in
theorem take_any (A : Option Addr) (n c : Nat) (k : Int) (l : List UInt8) (w : World) {ok : Nat → Prop} (hr : Rd w ok 1 A n (bs l)) (h1 : n ≤ c) (h2 : c ≤ maxLen) :
    Calls Tryz.prog 89 #[.agg #[.slice A n c, .int .i64 k]] w (TkPost w ok (entS (l, k)).1 (entS (l, k)).2) := by
  obtain ⟨⟨s1, a⟩, hA⟩ : ∃ q, uintS 1099511627776 (l, k) = q := ⟨_, rfl⟩
  obtain ⟨⟨s2, b⟩, hB⟩ : ∃ q, uintS 1099511627776 s1 = q := ⟨_, rfl⟩
  obtain ⟨⟨s3, k2⟩, hC⟩ : ∃ q, uintS 2 s2 = q := ⟨_, rfl⟩
  obtain ⟨⟨s4, d⟩, hE⟩ : ∃ q, bytesS 4096 s3 = q := ⟨_, rfl⟩
  rw [entS_eq hA hB hC hE]
  have ha : a ≤ 1099511627776 := by have := uintS_le 1099511627776 (l, k); rw [hA] at this; exact this
  have hb : b ≤ 1099511627776 := by have := uintS_le 1099511627776 s1; rw [hB] at this; exact this
  have hk : k2 ≤ 2 := by have := uintS_le 2 s2; rw [hC] at this; exact this
  have wa : IntKind.i64.wrap (a : Int) = a := by rw [IntKind.wrap_i64]; omega
  have wb : IntKind.i64.wrap (b : Int) = b := by rw [IntKind.wrap_i64]; omega
  have wk : IntKind.i64.wrap (k2 : Int) = k2 := by rw [IntKind.wrap_i64]; omega
  have u1 : ∀ W A n c, Rd W ok 1 A n (bs l) → n ≤ c → c ≤ maxLen → Calls Tryz.prog 50 #[.agg #[.slice A n c, .int .i64 k], .int .u64 1099511627776] W (RdRPost W ok s1 (.int .u64 (a : Nat))) := fun W A n c h g1 g2 => by have := readUint_any A n c k l 1099511627776 W h g1 g2; rw [hA] at this; exact this
  have u2 : ∀ W A n c, Rd W ok 1 A n (bs s1.1) → n ≤ c → c ≤ maxLen → Calls Tryz.prog 50 #[.agg #[.slice A n c, .int .i64 s1.2], .int .u64 1099511627776] W (RdRPost W ok s2 (.int .u64 (b : Nat))) := fun W A n c h g1 g2 => by have := readUint_any A n c s1.2 s1.1 1099511627776 W h g1 g2; rw [hB] at this; exact this
  have u3 : ∀ W A n c, Rd W ok 1 A n (bs s2.1) → n ≤ c → c ≤ maxLen → Calls Tryz.prog 50 #[.agg #[.slice A n c, .int .i64 s2.2], .int .u64 2] W (RdRPost W ok s3 (.int .u64 (k2 : Nat))) := fun W A n c h g1 g2 => by have := readUint_any A n c s2.2 s2.1 2 W h g1 g2; rw [hC] at this; exact this
  have u4 : ∀ W A n c, Rd W ok 1 A n (bs s3.1) → n ≤ c → c ≤ maxLen → Calls Tryz.prog 51 #[.agg #[.slice A n c, .int .i64 s3.2], .int .i64 4096] W (RunRPost W ok s4 d) := fun W A n c h g1 g2 => by have := readBytes_any A n c s3.2 s3.1 4096 W h g1 g2 (by omega); rw [hE] at this; exact this
  obtain ⟨W0, hW0⟩ : ∃ W0, W0 = (((w.alloc (.cells #[.slice A n c, .int .i64 k] 109)).alloc (.cells #[.slice none 0 0, .int .i64 0] 109)).alloc (.cells #[.int .i64 0, .int .i64 0, .int .i64 0, .slice none 0 0] 93)).alloc (.cells #[.int .i64 0, .int .i64 0, .int .i64 0, .slice none 0 0] 93) := ⟨_, rfl⟩
  have hbe : Below w.heap.size w W0 := by subst hW0; exact ((((Below.refl _ _).alloc (Nat.le_refl _) _).alloc (by simp) _).alloc (by simp; omega) _).alloc (by simp; omega) _
  have K0 : Tk ok w W0 A n c k l 0 0 0 := by
    refine ⟨?_, ?_, ?_, ?_, hr.below hbe, h1, h2, hbe⟩
    · subst hW0; exact (((Bx.new _ _ _ rfl).alloc _).alloc _).alloc _
    · subst hW0; exact ((Bx.new _ _ _ (by simp)).alloc _).alloc _
    · subst hW0; exact (Bx.new _ _ _ (by simp)).alloc _
    · subst hW0; exact Bx.new _ _ _ (by simp)
  have HW := Lib.hid hW0
  have U := Lib.hid (And.intro u1 (And.intro u2 (And.intro u3 u4)))
  have Q0 := Lib.hid K0
  obtain ⟨c0, c1, f0, f1, d0, d1, d2, d3, e0, e1, e2, e3⟩ := K0.cells
  clear hW0 hbe K0 u1 u2 u3 u4 hr hA hB hC hE ha hb hk h1 h2
  go_enter Tryz.func89, Tryz.ntmps89
  go_upto_region 2 with (fail)
  rw [← HW.out]
  go_wp2_with fail
  refine (U.out.1 _ _ _ _ Q0.out.rd Q0.out.nc Q0.out.cm).mono ?_
  rintro e w1 ⟨A1, n1, cp1, rfl, rr, hn1, hn2, hb⟩
  have KK := Lib.hid (Tk.put0 (Q0.out.turn (k' := s1.2) rr hn1 hn2 hb) (a : Nat))
  obtain ⟨y0, y1, y2, y3⟩ := (Q0.out.x1.below hb).c2
  obtain ⟨v0, v1, v2, v3, v4, v5, v6, v7⟩ := (Q0.out.turn (k' := s1.2) rr hn1 hn2 hb).cells.2.2.2.2
  clear c0 c1 f0 f1 d0 d1 d2 d3 e0 e1 e2 e3 hb rr hn1 hn2
  go_upto_region 5 with (fail)
  obtain ⟨W1, hW1⟩ : ∃ W', W' = ((w1.setCell ⟨w.heap.size, 0, none⟩ (.slice A1 n1 cp1)).setCell ⟨w.heap.size, 1, none⟩ (.int .i64 s1.2)).setCell ⟨w.heap.size + 3, 0, none⟩ (.int .i64 (a : Nat)) := ⟨_, rfl⟩
  have Q1 : Hid (Tk ok w W1 A1 n1 cp1 s1.2 s1.1 (a : Nat) 0 0) := by subst hW1; exact KK
  rw [← hW1]
  clear hW1 KK y0 y1 y2 y3 v0 v1 v2 v3 v4 v5 v6 v7
  obtain ⟨c0, c1, f0, f1, d0, d1, d2, d3, e0, e1, e2, e3⟩ := Q1.out.cells
  go_wp2_with fail
  refine (U.out.2.1 _ _ _ _ Q1.out.rd Q1.out.nc Q1.out.cm).mono ?_
  rintro e w2 ⟨A2, n2, cp2, rfl, rr, hn1, hn2, hb⟩
  have KK := Lib.hid (Tk.put1 (Q1.out.turn (k' := s2.2) rr hn1 hn2 hb) (b : Nat))
  obtain ⟨y0, y1, y2, y3⟩ := (Q1.out.x1.below hb).c2
  obtain ⟨v0, v1, v2, v3, v4, v5, v6, v7⟩ := (Q1.out.turn (k' := s2.2) rr hn1 hn2 hb).cells.2.2.2.2
  clear c0 c1 f0 f1 d0 d1 d2 d3 e0 e1 e2 e3 hb rr hn1 hn2
  go_upto_region 7 with (fail)
  obtain ⟨W2, hW2⟩ : ∃ W', W' = ((w2.setCell ⟨w.heap.size, 0, none⟩ (.slice A2 n2 cp2)).setCell ⟨w.heap.size, 1, none⟩ (.int .i64 s2.2)).setCell ⟨w.heap.size + 3, 1, none⟩ (.int .i64 (b : Nat)) := ⟨_, rfl⟩
  have Q2 : Hid (Tk ok w W2 A2 n2 cp2 s2.2 s2.1 (a : Nat) (b : Nat) 0) := by subst hW2; exact KK
  rw [← hW2]
  clear hW2 KK y0 y1 y2 y3 v0 v1 v2 v3 v4 v5 v6 v7
  obtain ⟨c0, c1, f0, f1, d0, d1, d2, d3, e0, e1, e2, e3⟩ := Q2.out.cells
  go_wp2_with fail
  refine (U.out.2.2.1 _ _ _ _ Q2.out.rd Q2.out.nc Q2.out.cm).mono ?_
  rintro e w3 ⟨A3, n3, cp3, rfl, rr, hn1, hn2, hb⟩
  have KK := Lib.hid (Tk.put2 (Q2.out.turn (k' := s3.2) rr hn1 hn2 hb) (k2 : Nat))
  obtain ⟨y0, y1, y2, y3⟩ := (Q2.out.x1.below hb).c2
  obtain ⟨v0, v1, v2, v3, v4, v5, v6, v7⟩ := (Q2.out.turn (k' := s3.2) rr hn1 hn2 hb).cells.2.2.2.2
  clear c0 c1 f0 f1 d0 d1 d2 d3 e0 e1 e2 e3 hb rr hn1 hn2
  go_upto_region 9 with (fail)
  obtain ⟨W3, hW3⟩ : ∃ W', W' = ((w3.setCell ⟨w.heap.size, 0, none⟩ (.slice A3 n3 cp3)).setCell ⟨w.heap.size, 1, none⟩ (.int .i64 s3.2)).setCell ⟨w.heap.size + 3, 2, none⟩ (.int .i64 (k2 : Nat)) := ⟨_, rfl⟩
  have Q3 : Hid (Tk ok w W3 A3 n3 cp3 s3.2 s3.1 (a : Nat) (b : Nat) (k2 : Nat)) := by subst hW3; exact KK
  rw [← hW3]
  clear hW3 KK y0 y1 y2 y3 v0 v1 v2 v3 v4 v5 v6 v7
  obtain ⟨c0, c1, f0, f1, d0, d1, d2, d3, e0, e1, e2, e3⟩ := Q3.out.cells
  go_wp2_with fail
  refine (U.out.2.2.2 _ _ _ _ Q3.out.rd Q3.out.nc Q3.out.cm).mono ?_
  rintro e w4 ⟨A4, n4, cp4, D, m, dc, rfl, rr, rD, hn1, hn2, hn3, hn4, hb⟩
  obtain ⟨y0, y1, y2, y3⟩ := (Q3.out.x1.below hb).c2
  have K5 := Q3.out.turn (k' := s4.2) rr hn1 hn2 hb
  have rD5 := (setB (i := 1) (setB (i := 0) (rD.off_box (Q3.out.x1.below hb) (nob2 _ _ _ _)) (.slice A4 n4 cp4)) (.int .i64 s4.2)).mono (fun b hb => hb.1)
  have KP := K5.put 3 (.slice D m dc)
  have rD6 := (setB (i := 3) (rD5.off_box K5.x4 (nob4 _ _ _ _ _ _)) (.slice D m dc)).mono (fun b hb => hb.1)
  obtain ⟨v0, v1, v2, v3, v4, v5, v6, v7⟩ := K5.cells.2.2.2.2
  have M := Lib.hid (And.intro hn1 (And.intro hn2 (And.intro hn3 hn4)))
  have KP' := Lib.hid (And.intro KP rD6)
  clear c0 c1 f0 f1 d0 d1 d2 d3 e0 e1 e2 e3 hb rr rD hn1 hn2 hn3 hn4 K5 rD5 KP rD6
  go_upto_region 10 with (fail)
  obtain ⟨W4, hW4⟩ : ∃ W', W' = ((w4.setCell ⟨w.heap.size, 0, none⟩ (.slice A4 n4 cp4)).setCell ⟨w.heap.size, 1, none⟩ (.int .i64 s4.2)).setCell ⟨w.heap.size + 3, 3, none⟩ (.slice D m dc) := ⟨_, rfl⟩
  rw [← hW4] at KP' ⊢
  clear hW4 y0 y1 y2 y3 v0 v1 v2 v3 v4 v5 v6 v7
  obtain ⟨⟨x1, x2, x3, x4, r4, b4⟩, rD4⟩ := KP'.out
  have x4' : Bx W4 (w.heap.size + 3) #[.int .i64 (a : Nat), .int .i64 (b : Nat), .int .i64 (k2 : Nat), .slice D m dc] := by simpa using x4
  have FS := Lib.hid (show ∀ W, Bx W w.heap.size #[.slice A4 n4 cp4, .int .i64 s4.2] ∧ Bx W (w.heap.size + 3) #[.int .i64 (a : Nat), .int .i64 (b : Nat), .int .i64 (k2 : Nat), .slice D m dc] → W.cell? ⟨w.heap.size, 0, none⟩ = some (.slice A4 n4 cp4) ∧ W.cell? ⟨w.heap.size, 1, none⟩ = some (.int .i64 s4.2) ∧
    W.cell? ⟨w.heap.size + 3, 0, none⟩ = some (.int .i64 (a : Nat)) ∧ W.cell? ⟨w.heap.size + 3, 1, none⟩ = some (.int .i64 (b : Nat)) ∧ W.cell? ⟨w.heap.size + 3, 2, none⟩ = some (.int .i64 (k2 : Nat)) ∧ W.cell? ⟨w.heap.size + 3, 3, none⟩ = some (.slice D m dc) from fun W h => ⟨h.1.c 0, h.1.c 1, h.2.c 0, h.2.c 1, h.2.c 2, h.2.c 3⟩)
  have hS0 := And.intro x1.drew x4'.drew
  have Z := Lib.hid (And.intro x2 (And.intro x3 (And.intro (And.intro r4 rD4) b4)))
  obtain ⟨z0, z1, z2, z3⟩ := x2.c2
  obtain ⟨p0, p1, p2, p3, o0, o1, o2, o3⟩ := x3.c4
  clear x1 x2 x3 x4 x4' r4 b4 rD4 KP'
  refine wp_region_S 3 (fun W => Bx W w.heap.size #[.slice A4 n4 cp4, .int .i64 s4.2] ∧ Bx W (w.heap.size + 3) #[.int .i64 (a : Nat), .int .i64 (b : Nat), .int .i64 (k2 : Nat), .slice D m dc]) (.take 0 (.take 1 (.one 2 (.one 3 (.nil))))) (by kernel_rfl) hS0 (fun _ _ _ _ h => h) (fun hS => ?_)
  repeat (first
    | (refine wpS_take (v := ?_) rfl rfl (by rfl) ?_ ?_; rotate_left; (intro W hW; have hf := FS.out W hW; go_split_ands; go_simp; try with_reducible rfl); try simp only [Act.put, List.setIfInBounds_toArray, List.set_cons_zero, List.set_cons_succ])
    | (refine wpS_skip rfl rfl (by rfl) ?_; try simp only [Act.put, List.setIfInBounds_toArray, List.set_cons_zero, List.set_cons_succ]))
  refine wpS_one rfl (by rfl) (fun K hK => ?_)
  go_simp
  refine hK (fun W => Bx W w.heap.size #[.slice A4 n4 cp4, .int .i64 s4.2] ∧ Bx W (w.heap.size + 3) #[.int .i64 (a : Nat), .int .i64 (b : Nat), .int .i64 (k2 : Nat), .slice D m dc]) _ _ (fun W h => h) ⟨(hS.1.far (p := ⟨w.heap.size + 1, 0, none⟩) (by show w.heap.size ≠ w.heap.size + 1; omega) _).far (p := ⟨w.heap.size + 1, 1, none⟩) (by show w.heap.size ≠ w.heap.size + 1; omega) _, (hS.2.far (p := ⟨w.heap.size + 1, 0, none⟩) (by show w.heap.size + 3 ≠ w.heap.size + 1; omega) _).far (p := ⟨w.heap.size + 1, 1, none⟩) (by show w.heap.size + 3 ≠ w.heap.size + 1; omega) _⟩ ?_
  clear hK K
  try simp only [Act.put, List.setIfInBounds_toArray, List.set_cons_zero, List.set_cons_succ]
  repeat (first
    | (refine wpS_take (v := ?_) rfl rfl (by rfl) ?_ ?_; rotate_left; (intro W hW; have hf := FS.out W hW; go_split_ands; go_simp; try with_reducible rfl); try simp only [Act.put, List.setIfInBounds_toArray, List.set_cons_zero, List.set_cons_succ])
    | (refine wpS_skip rfl rfl (by rfl) ?_; try simp only [Act.put, List.setIfInBounds_toArray, List.set_cons_zero, List.set_cons_succ]))
  refine wpS_last rfl (by rfl) (fun K hK => ?_)
  go_simp
  refine hK _ _ ?_
  clear hK K
  try simp only [Act.put, List.setIfInBounds_toArray, List.set_cons_zero, List.set_cons_succ]
  refine wpS_nil ?_
  go_wp2_with fail
  refine bodyPost_ret (by simp [results, Tryz.results89, go_sem, z0, z1, p0, p1, p2, p3]; rfl) rfl ?_
  have N := M.out
  exact ⟨A4, n4, cp4, D, m, dc, rfl, (six Z.out.2.2.1.1 Z.out.1 Z.out.2.1 _ _ _ _ _ _).drew, (six Z.out.2.2.1.2 Z.out.1 Z.out.2.1 _ _ _ _ _ _).drew, N.1, N.2.1, N.2.2.1, N.2.2.2, six_below Z.out.2.2.2 _ _ _ _ _ _⟩
end Go.Proofs.YtlecglmiigdjlaaGreatDoor
namespace Go.Proofs.YtlecglmiigdjlaaGreatDoor
open Go.RowKit
set_option maxRecDepth 100000
set_option linter.unusedVariables false
set_option linter.unusedSimpArgs false
set_option maxHeartbeats 3200000 in
theorem decodeR_any (A : Option Addr) (n c : Nat) (l : List UInt8) (w : World) {ok : Nat → Prop} (hr : Rd w ok 1 A n (bs l)) (h1 : n ≤ c) (h2 : c ≤ maxLen) :
    Calls Tryz.prog 54 #[.slice A n c] w (EntPost w ok (.int .i64) (entD l)) := by
  obtain ⟨W0, hW0⟩ : ∃ W0, W0 = w.alloc (.cells #[.int .i64 0, .int .i64 0, .int .i64 0, .slice none 0 0] 93) := ⟨_, rfl⟩
  have F0 : Fr W0 w.heap.size 4 W0 := by subst hW0; exact Fr.new rfl rfl
  have b0 : Bx W0 w.heap.size #[.int .i64 0, .int .i64 0, .int .i64 0, .slice none 0 0] := by subst hW0; exact Bx.new _ _ _ rfl
  have hbe : Below w.heap.size w W0 := by subst hW0; exact (Below.refl _ _).alloc (Nat.le_refl _) _
  have htk := take_any A n c 0 l W0 (hr.below hbe) h1 h2
  obtain ⟨⟨s, a, b, k, d⟩, hS⟩ : ∃ q, entS (l, 0) = q := ⟨_, rfl⟩
  have hD := entD_eq hS
  rw [hS] at htk
  have HW := Lib.hid hW0
  have Htk := Lib.hid htk
  have HD := Lib.hid hD
  have FF := Lib.hid (And.intro F0 (And.intro b0 hbe))
  clear hW0 htk hD F0 b0 hbe hr hS
  go_enter Tryz.func54, Tryz.ntmps54
  go_upto_region 1 with (fail)
  rw [← HW.out]
  go_wp2_with fail
  refine Htk.out.mono ?_
  rintro e w1 ⟨A1, n1, c1, D, m, dc, rfl, r1, rD, m1, m2, m3, m4, hb1⟩
  have G1 := Lib.hid (And.intro r1 (And.intro rD (And.intro m1 (And.intro m2 (And.intro m3 (And.intro m4 hb1))))))
  clear r1 rD m1 m2 m3 m4 hb1
  go_upto_region 2 with (fail)
  obtain ⟨W2, hW2⟩ : ∃ W2, W2 = (w1.alloc (.cells #[.slice A1 n1 c1, .int .i64 s.2] 109)).alloc (.cells #[.int .i64 (a : Nat), .int .i64 (b : Nat), .int .i64 (k : Nat), .slice D m dc] 93) := ⟨_, rfl⟩
  have hb2 : Below w1.heap.size w1 W2 := by subst hW2; exact ((Below.refl _ _).alloc (Nat.le_refl _) _).alloc (by simp) _
  have y1 : Bx W2 w1.heap.size #[.slice A1 n1 c1, .int .i64 s.2] := by subst hW2; exact (Bx.new _ _ _ rfl).alloc _
  have y2 : Bx W2 (w1.heap.size + 1) #[.int .i64 (a : Nat), .int .i64 (b : Nat), .int .i64 (k : Nat), .slice D m dc] := by subst hW2; exact Bx.new _ _ _ (by simp)
  have hdn := doneR_any A1 n1 c1 s.2 s.1 W2 (G1.out.1.below hb2)
  have hb02 : Below W0.heap.size W0 W2 := G1.out.2.2.2.2.2.2.trans (hb2.mono G1.out.2.2.2.2.2.2.size)
  rw [← hW2]
  have HW2 := Lib.hid hW2
  obtain ⟨c0, c1', -, -⟩ := y1.c2
  have Y := Lib.hid (And.intro y2 (And.intro hb02 (G1.out.2.1.below hb2)))
  have Hdn := Lib.hid hdn
  clear hW2 hb2 y1 y2 hdn hb02
  go_wp2_with fail
  refine Hdn.out.mono ?_
  rintro e w3 ⟨rfl, hb3⟩
  have hb03 : Below W0.heap.size W0 w3 := Y.out.2.1.trans (hb3.mono Y.out.2.1.size)
  have F3 := FF.out.1.below hb03
  have x3 := FF.out.2.1.below hb03
  have r3 := ((Y.out.2.2.below hb3).off_box x3 (nob4 _ _ _ _ _ _))
  obtain ⟨i0, i1, i2, i3, -⟩ := (Y.out.1.below hb3).c4
  obtain ⟨q0, q1, q2, q3, f0, f1, f2, f3⟩ := x3.c4
  clear c0 c1'
  have hzero : EntPost w ok (.int .i64) none (.returned (.tuple #[.agg #[.int .i64 0, .int .i64 0, .int .i64 0, .slice none 0 0], .int .i64 3])) ((((w3.setCell ⟨w.heap.size, 0, none⟩ (.int .i64 0)).setCell ⟨w.heap.size, 1, none⟩ (.int .i64 0)).setCell ⟨w.heap.size, 2, none⟩ (.int .i64 0)).setCell ⟨w.heap.size, 3, none⟩ (.slice none 0 0)) := by
    rw [EntPost_none]
    exact ⟨rfl, FF.out.2.2.trans ((Fr.set (Fr.set (Fr.set (Fr.set F3 0 (.int .i64 0)) 1 (.int .i64 0)) 2 (.int .i64 0)) 3 (.slice none 0 0)).to_below (B := w.heap.size) (Nat.le_refl _))⟩
  have Zero := Lib.hid hzero
  have K := Lib.hid (And.intro F3 r3)
  clear hzero F3 x3 r3 hb03 hb3
  obtain ⟨ds, hds⟩ : ∃ ds, doneS s = ds := ⟨_, rfl⟩
  rw [show doneS (s.1, s.2) = ds from hds]
  have HD' := Lib.hid (show entD l = if ds = 0 ∧ 1 ≤ a ∧ 1 ≤ b then some (a, b, k, d) else none by rw [HD.out, hds])
  clear hds HD
  by_cases hd0 : ds = 0
  · subst hd0
    by_cases ha1 : 1 ≤ a
    · have ha1I : decide ((a : Int) < 1) = false := decide_eq_false (by omega)
      by_cases hb1 : 1 ≤ b
      · have hb1I : decide ((b : Int) < 1) = false := decide_eq_false (by omega)
        have HDD := Lib.hid (show entD l = some (a, b, k, d) by rw [HD'.out, if_pos ⟨rfl, ha1, hb1⟩])
        clear HD' ha1 hb1
        go_wp2_with fail
        refine bodyPost_ret (by simp [results, Tryz.results54, go_sem, q0, q1, q2, q3]; rfl) rfl ?_
        rw [HDD.out, EntPost_some]
        have hF := Fr.set (Fr.set (Fr.set (Fr.set K.out.1 0 (.int .i64 (a : Nat))) 1 (.int .i64 (b : Nat))) 2 (.int .i64 (k : Nat))) 3 (.slice D m dc)
        refine ⟨D, m, dc, rfl, (setB (setB (setB (setB K.out.2 _) _) _) _).mono fun b hb => hb.1, G1.out.2.2.2.2.1, G1.out.2.2.2.2.2.1, FF.out.2.2.trans (hF.to_below (B := w.heap.size) (Nat.le_refl _))⟩
      · have hb1I : (b : Int) < 1 := by omega
        have HDD := Lib.hid (show entD l = none by rw [HD'.out, if_neg (fun h => hb1 h.2.2)])
        clear HD' ha1 hb1
        go_wp2_with fail
        refine bodyPost_ret (by simp [results, Tryz.results54, go_sem, q0, q1, q2, q3]; rfl) rfl ?_
        rw [HDD.out]
        exact Zero.out
    · have ha1I : (a : Int) < 1 := by omega
      have HDD := Lib.hid (show entD l = none by rw [HD'.out, if_neg (fun h => ha1 h.2.1)])
      clear HD' ha1
      go_wp2_with fail
      refine bodyPost_ret (by simp [results, Tryz.results54, go_sem, q0, q1, q2, q3]; rfl) rfl ?_
      rw [HDD.out]
      exact Zero.out
  · have hdd : (ds == 0) = false := by simpa using hd0
    have hdn : (ds != 0) = true := by simpa using hd0
    have HDD := Lib.hid (show entD l = none by rw [HD'.out, if_neg (fun h => hd0 h.1)])
    clear HD' hd0
    go_wp2_with fail
    refine bodyPost_ret (by simp [results, Tryz.results54, go_sem, q0, q1, q2, q3]; rfl) rfl ?_
    rw [HDD.out]
    exact Zero.out
end Go.Proofs.YtlecglmiigdjlaaGreatDoor
