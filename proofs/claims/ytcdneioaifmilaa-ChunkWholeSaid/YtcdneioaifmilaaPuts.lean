/- Walk of tollbarlaw12.ChunkPuts. -/
import Derived.Test.YtcdneioaifmilaaOne
import Derived.Deep.LoopGhost
namespace Go.Proofs.Ytcdneioaifmilaa
open Go.RowKit
set_option linter.unusedVariables false
set_option linter.unusedSimpArgs false
/-- What a piece's four cells hold. -/
def PartAt (w : World) (A : Option Addr) (i : Nat) : Prop := ∃ (b o : Nat) (key off : Int) (B : Option Addr) (m d : Nat) (p : List UInt8) (last : Bool), A = some ⟨b, o, none⟩ ∧
  w.cell? ⟨b, o + i * 4, none⟩ = some (.int .i64 key) ∧ w.cell? ⟨b, o + i * 4 + 1, none⟩ = some (.int .i64 off) ∧ w.cell? ⟨b, o + i * 4 + 2, none⟩ = some (.slice B m d) ∧ w.cell? ⟨b, o + i * 4 + 3, none⟩ = some (.bool last) ∧ Rd w T 1 B m (bs p)
/-- Both boxes hold the same text h under the same key. -/
def Two (w wr : World) (g1 g2 : Nat) : Prop := ∃ (key : Int) (h : List UInt8) (A : Option Addr) (n c : Nat) (B : Option Addr) (m d : Nat), Bx wr g1 #[.int .i64 key, .slice A n c] ∧ Bx wr g2 #[.int .i64 key, .slice B m d] ∧
  Rd wr (fun b => b ≠ g1 ∧ b ≠ g2) 1 A n (bs h) ∧ Rd wr (fun b => b ≠ g1 ∧ b ≠ g2) 1 B m (bs h) ∧ h.length ≤ 1048576 ∧ Below w.heap.size w wr
theorem putR_len (bk : Int) (h : List UInt8) (key off : Int) (p : List UInt8) (last : Bool) (hh : h.length ≤ 1048576) (hp : p.length ≤ 1048576) : (putR bk h key off p last).2.1.length ≤ 1048576 := by
  unfold putR
  split
  · exact hh
  · split
    · simp
    · rename_i h1 _
      simp only [not_or, List.length_append] at h1 ⊢
      omega
set_option maxRecDepth 100000 in
set_option maxHeartbeats 800000 in
theorem puts_walk (A : Option Addr) (n c : Nat) (w : World) (hn : n ≤ 9223372036854775807) (hl : ∀ i, i < n → PartAt w A i) :
   Calls Try.prog 3 #[.slice A n c] w (YesPost w) := by
  go_enter Try.func3, Try.ntmps3
  go_wp2_with fail
  have h0 : Two w ((w.alloc (Obj.cells #[Value.int IntKind.i64 0, Value.slice none 0 0] 25)).alloc (Obj.cells #[Value.int IntKind.i64 0, Value.slice none 0 0] 26)) w.heap.size (w.heap.size + 1) :=
    ⟨0, [], none, 0, 0, none, 0, 0, (Bx.new _ _ _ rfl).alloc _, Bx.new _ _ _ (by simp), Rd.none_, Rd.none_, by simp, (Below.refl _ _).alloc (Nat.le_refl _) _ |>.alloc (by simp) _⟩
  go_loopg [5] n (fun k s5 wr => ∃ i : Nat, i ≤ n ∧ k = n - i ∧ s5 = .int .i64 i ∧ Two w wr w.heap.size (w.heap.size + 1))
  case atStart => exact ⟨0, by omega, by omega, rfl, h0⟩
  case round =>
    obtain ⟨i, hi, hk, rfl, htwo⟩ := hrel
    clear h0
    have Hk := Lib.hid hk
    clear hk
    by_cases hlt : i < n ∧ i < 40
    · obtain ⟨hlt, h40⟩ := hlt
      obtain ⟨b, o, key, off, B, m, d, p, last, rfl, c0, c1, c2, c3, hp⟩ := hl i hlt
      obtain ⟨bk, h, A1, n1, k1, A2, n2, k2, X1, X2, r1, r2, hh, hb⟩ := htwo
      have hbl : b < w.heap.size := World.block_lt_of_cell? w _ c0
      have d0 := (hb.cell (p := ⟨b, o + i * 4, none⟩) hbl).trans c0
      have d1 := (hb.cell (p := ⟨b, o + i * 4 + 1, none⟩) hbl).trans c1
      have d2 := (hb.cell (p := ⟨b, o + i * 4 + 2, none⟩) hbl).trans c2
      have d3 := (hb.cell (p := ⟨b, o + i * 4 + 3, none⟩) hbl).trans c3
      clear c0 c1 c2 c3
      by_cases hm : 10000 < (m : Int)
      · go_wp2_with fail
        go_roundg (n - (i + 1))
        case measure => have := Hk.out; omega
        case rel => exact ⟨i + 1, by omega, rfl, by go_num, bk, h, A1, n1, k1, A2, n2, k2, X1.alloc _, X2.alloc _, r1.alloc _, r2.alloc _, hh, hb.alloc (hb.size) _⟩
      · have z1 := hb.size
        have l1 := r1.blen
        have l2 := r2.blen
        have n1b : n1 ≤ 1048576 := by omega
        have n2b : n2 ≤ 1048576 := by omega
        clear l1 l2
        replace hp := hp.below (hb.mono (Nat.le_refl _))
        have j1 := X1.c
        have j2 := X2.c
        have q1 := X1.lt
        have q2 := X2.lt
        go_wp2_with fail
        refine (put_any bk key off A1 n1 k1 h B m d p last _ (r1.any.alloc _) (hp.alloc _) n1b (by omega)).mono ?_
        rintro e w2 ⟨A3, k3, B3, d3, n3, m3, rfl, r3, t3, hb2⟩
        clear j1 j2
        have X6 := (Bx.new wr #[Value.int IntKind.i64 key, Value.int IntKind.i64 off, Value.slice B m d, Value.bool last] 28 rfl).below hb2
        replace X1 := (X1.alloc _).below hb2
        replace X2 := (X2.alloc _).below hb2
        replace r1 := (r1.alloc _).below hb2
        replace r2 := (r2.alloc _).below hb2
        replace hp := (hp.alloc _).below hb2
        replace hb := (hb.alloc z1 _).trans (hb2.mono (by simp; omega))
        have q1 := X1.lt
        have q2 := X2.lt
        have q6 := X6.lt
        have j1 := X1.c
        have j2 := X2.c
        have j6 := X6.c
        have z2 := hb.size
        clear hb2
        go_wp2_with fail
        refine (refPut_any bk key off A2 n2 k2 h B m d p last _ (r2.any.alloc _) (hp.alloc _) n2b (by omega)).mono ?_
        rintro e w3 ⟨A4, k4, B4, d4, n4, m4, rfl, r4, t4, hb3⟩
        clear j1 j2 j6
        have hlen := putR_len bk h key off p last hh (by have := hp.blen; omega)
        generalize putR bk h key off p last = r at r3 t3 r4 t4 hb3 hlen ⊢
        have X7 := (Bx.new w2 #[Value.int IntKind.i64 r.1, Value.slice A3 n3 k3] 25 rfl).below hb3
        replace X1 := (X1.alloc _).below hb3
        replace X2 := (X2.alloc _).below hb3
        replace r3 := ((r3.lt (by omega)).alloc _).below hb3
        replace t3 := (t3.alloc _).below hb3
        have hq1 := X1.lt
        replace hb := (hb.alloc z2 _).trans (hb3.mono (by simp; omega))
        have q1 := X1.lt
        have q2 := X2.lt
        have q7 := X7.lt
        have j1 := X1.c
        have j2 := X2.c
        have j7 := X7.c
        have f1 := X1.f
        have f2 := X2.f
        have e2 := fun o c => cv (r3.alloc o) c
        have e3 := fun o c => cv (r4.alloc o) c
        have e4 := fun o c => cv (t3.alloc o) c
        have e5 := fun o c => cv (t4.alloc o) c
        have z3 := hb.size
        clear hb3
        go_wp2_with fail
        go_region
        all_goals
          go_wp2_with fail
          go_roundg (n - (i + 1))
          case measure => have := Hk.out; omega
          case rel =>
            refine ⟨i + 1, by omega, rfl, by go_num, ?_⟩
            have hcs : ∀ (a : Int) (C : Option Addr) (x y : Nat) (i : Nat) (z : Int), (#[Value.int .i64 a, Value.slice C x y] : Array Value)[i]? ≠ some (.int .u8 z) := by
              intro a C x y i z
              rcases i with _ | _ | i <;> simp
            have s3 := ((r3.off_box X1 (hcs _ _ _ _)).off_box X2 (hcs _ _ _ _)).mono (ok' := fun b => b ≠ w.heap.size ∧ b ≠ w.heap.size + 1) (fun b hb => ⟨hb.1.2, hb.2⟩)
            have s4 := ((r4.off_box X1 (hcs _ _ _ _)).off_box X2 (hcs _ _ _ _)).mono (ok' := fun b => b ≠ w.heap.size ∧ b ≠ w.heap.size + 1) (fun b hb => ⟨hb.1.2, hb.2⟩)
            have ne1 : w.heap.size ≠ w.heap.size + 1 := by omega
            have n1 : ¬ (w.heap.size ≠ w.heap.size ∧ w.heap.size ≠ w.heap.size + 1) := fun h => h.1 rfl
            have n2 : ¬ (w.heap.size + 1 ≠ w.heap.size ∧ w.heap.size + 1 ≠ w.heap.size + 1) := fun h => h.2 rfl
            exact ⟨r.1, r.2.1, A3, _, k3, A4, _, k4, (((((X1.set 0 _).set 1 _).far ne1 _).far ne1 _).alloc _).drew, (((((X2.far ne1.symm _).far ne1.symm _).set 0 _).set 1 _).alloc _).drew,
              (((((s3.setCell n1 _).setCell n1 _).setCell n2 _).setCell n2 _).alloc _).drew, (((((s4.setCell n1 _).setCell n1 _).setCell n2 _).setCell n2 _).alloc _).drew, hlen,
              (((((hb.setCell (Nat.le_refl _) _).setCell (Nat.le_refl _) _).setCell (Nat.le_succ _) _).setCell (Nat.le_succ _) _).alloc (by simpa using z3) _).drew⟩
    · obtain ⟨bk, h, A1, n1, k1, A2, n2, k2, X1, X2, r1, r2, hh, hb⟩ := htwo
      have h1 : decide (i < n) = false ∨ i < n ∧ 40 ≤ (i : Int) := by
        by_cases h : i < n
        · exact .inr ⟨h, by omega⟩
        · exact .inl (by simp; omega)
      clear hlt X1 X2 r1 r2
      rcases h1 with h1 | ⟨h1, h2⟩
      all_goals
        go_wp2_with fail
        refine (sure_any _).mono ?_
        rintro e w4 ⟨rfl, hb4⟩
        go_wp2_with fail
        go_ret
        exact ⟨rfl, hb.trans (hb4.mono hb.size)⟩
end Go.Proofs.Ytcdneioaifmilaa
