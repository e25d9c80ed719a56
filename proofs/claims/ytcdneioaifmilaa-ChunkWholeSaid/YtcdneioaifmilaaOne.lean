/- Walk of tollbarlaw12.ChunkOne. -/
import Derived.Test.YtcdneioaifmilaaSure
import Derived.Test.YtcdneioaifmilaaBox
import Derived.Deep.DeepCutAuto
namespace Go.Proofs.Ytcdneioaifmilaa
open Go.RowKit
set_option linter.unusedVariables false
set_option linter.unusedSimpArgs false
theorem one_long (bk : Int) (A : Option Addr) (n c : Nat) (key off : Int) (B : Option Addr) (m d : Nat) (last : Bool) (w : World)
   (h : decide (10000 < (n : Int)) = true ∨ decide (10000 < (n : Int)) = false ∧ 10000 < (m : Int)) :
   Calls Try.prog 5 #[.agg #[.int .i64 bk, .slice A n c], .agg #[.int .i64 key, .int .i64 off, .slice B m d, .bool last]] w (YesPost w) := by
  rcases h with h | ⟨h, h'⟩
  all_goals
    go_enter Try.func5, Try.ntmps5
    go_wp2_with fail
    refine (sure_any _).mono ?_
    rintro e w1 ⟨rfl, hb1⟩
    go_wp2_with fail
    go_ret
    exact ⟨rfl, ((Below.refl _ _).alloc (Nat.le_refl _) _ |>.alloc (by simp) _).trans (hb1.mono (by simp; omega))⟩
set_option maxRecDepth 100000 in
set_option maxHeartbeats 800000 in
theorem one_short (bk : Int) (A : Option Addr) (n c : Nat) (hv : List UInt8) (key off : Int) (B : Option Addr) (m d : Nat) (p : List UInt8) (last : Bool) (w : World)
   (hr : Rd w T 1 A n (bs hv)) (hp : Rd w T 1 B m (bs p)) (hn : (n : Int) ≤ 10000) (hm : (m : Int) ≤ 10000) :
   Calls Try.prog 5 #[.agg #[.int .i64 bk, .slice A n c], .agg #[.int .i64 key, .int .i64 off, .slice B m d, .bool last]] w (YesPost w) := by
  have h1 : decide (10000 < (n : Int)) = false := by simp; omega
  go_enter Try.func5, Try.ntmps5
  go_wp2_with fail
  obtain ⟨W0, hW0⟩ : ∃ W0, W0 = (w.alloc (Obj.cells #[Value.int IntKind.i64 bk, Value.slice A n c] 26)).alloc (Obj.cells #[Value.int IntKind.i64 key, Value.int IntKind.i64 off, Value.slice B m d, Value.bool last] 28) := ⟨_, rfl⟩
  have z0 : w.heap.size + 1 + 1 ≤ W0.heap.size := by subst hW0; simp
  have X0 : Bx W0 w.heap.size #[Value.int IntKind.i64 bk, Value.slice A n c] := by subst hW0; exact (Bx.new _ _ _ rfl).alloc _
  have X1 : Bx W0 (w.heap.size + 1) #[Value.int IntKind.i64 key, Value.int IntKind.i64 off, Value.slice B m d, Value.bool last] := by subst hW0; exact Bx.new _ _ _ (by simp)
  have b0 : Below w.heap.size w W0 := by subst hW0; exact (Below.refl _ _).alloc (Nat.le_refl _) _ |>.alloc (by simp) _
  have hr0 : Rd W0 T 1 A n (bs hv) := by subst hW0; exact hr.alloc _ |>.alloc _
  have hp0 : Rd W0 T 1 B m (bs p) := by subst hW0; exact hp.alloc _ |>.alloc _
  rw [← hW0]
  clear hW0 hr hp
  go_cut [6] (fun s6 W => ∃ g A1 c1, s6 = .pointer (some ⟨g, 0, none⟩) ∧ w.heap.size + 2 ≤ g ∧ Bx W g #[Value.int IntKind.i64 bk, Value.slice A1 n c1] ∧ Rd W (fun b => w.heap.size + 2 ≤ b ∧ b ≠ g) 1 A1 n (bs hv) ∧ Below W0.heap.size W0 W)
  case first =>
    have sof : ∀ W, Below W0.heap.size W0 W → (Below W0.heap.size W0 W ∧ ∀ i, W.cell? ⟨w.heap.size, i, none⟩ = (#[Value.int IntKind.i64 bk, Value.slice A n c] : Array Value)[i]?) := fun W hb => ⟨hb, (X0.below hb).c⟩
    go_region_held3 (fun W => Below W0.heap.size W0 W ∧ ∀ i, W.cell? ⟨w.heap.size, i, none⟩ = (#[Value.int IntKind.i64 bk, Value.slice A n c] : Array Value)[i]?) ((refine sof _ ?_; first | exact (Below.refl _ _).drew | (go_split_ands; exact Below.alloc (by assumption) (Below.size (by assumption)) _) | (go_split_ands; exact Below.grown (by assumption) (by assumption) (Below.size (by assumption)) (fun k hk => by simp at hk)) | (go_split_ands; exact below_realloc (by assumption) hz1 hz1 _) | (go_split_ands; refine Below.setCell ?_ (by first | exact Nat.le_refl _ | exact hz1) _; refine Below.setCell ?_ (by first | exact Nat.le_refl _ | exact hz1) _; assumption))) (first | (go_split_ands; refine step_append_any _ Try.underlying23 u8_elem rfl (by omega) rfl rfl rfl (own_nil _ W0.heap.size 5 1 0 rfl) rfl (hr0.below (by assumption)) (bs_one hv) (by omega) (Below.size (by assumption)) (Nat.zero_add n) (List.nil_append _) ?_; intro A1 c1 w1 hown1 hg1 hat1; have hz1 : W0.heap.size ≤ w1.heap.size := Nat.le_trans (Below.size (by assumption)) hg1.size; try (have X6 : Bx w1 W0.heap.size #[Value.int IntKind.i64 0, Value.slice none 0 0] := (by first | exact (Bx.new W0.drew _ 25 rfl).grown hg1 (by simp) | exact (Bx.new W0 _ 25 rfl).drew.grown hg1 (by simp)); have x6c := X6.c; have x6f := X6.f)))

    · go_wp2_with fail
      go_meet
      case rel =>
        have b1 : Below W0.heap.size W0 w1 := (Below.refl _ _).drew.grown hg1 (Nat.le_refl _) (fun k hk => by simp at hk)
        exact ⟨w1.heap.size, A1, c1, rfl, by omega, Bx.new _ _ _ rfl, (((Rd.of_own hown1).lt (by omega)).mono (fun b hb => ⟨by have := hb.1; omega, by have := hb.2; omega⟩)).alloc _, b1.alloc hz1 _⟩
    · go_wp2_with fail
      go_meet
      case rel =>
        have b1 : Below W0.heap.size W0 w1 := ((Below.refl _ _).drew.alloc (Nat.le_refl _) _).grown hg1 (by simp) (fun k hk => by simp at hk)
        have q : ∀ b, A1.map (·.block) = some b → w.heap.size + 2 ≤ b ∧ b ≠ W0.heap.size := by
          intro b hb
          rcases hat1 with e | e <;> rw [e] at hb <;> simp at hb
          omega
        exact ⟨W0.heap.size, A1, c1, rfl, by omega, (X6.set 0 _).set 1 _, (((Rd.of_own hown1).blk q).setCell (by simp) _).setCell (by simp) _, (b1.setCell (Nat.le_refl _) _).setCell (Nat.le_refl _) _⟩
  case rest =>
    obtain ⟨g, A1, c1, rfl, hg, X6, r1, hb1⟩ := hcut
    replace X0 := X0.below hb1
    replace X1 := X1.below hb1
    replace b0 := b0.trans (hb1.mono (by omega))
    replace hp0 := hp0.below hb1
    replace hr0 := hr0.below hb1
    have q0 := X0.lt
    have q1 := X1.lt
    have q6 := X6.lt
    have k0 := X0.c
    have k1 := X1.c
    have k6 := X6.c
    clear hb1
    go_wp2_with fail
    refine (put_any bk key off A1 n c1 hv B m d p last _ r1.any hp0 (by omega) (by omega)).mono ?_
    rintro e w2 ⟨A2, c2, B2, d2, n2, m2, rfl, r2, t2, hb2⟩
    clear k0 k1 k6
    replace X0 := X0.below hb2
    replace X1 := X1.below hb2
    replace X6 := X6.below hb2
    replace b0 := b0.trans (hb2.mono b0.size)
    replace hp0 := hp0.below hb2
    replace hr0 := hr0.below hb2
    replace r1 := r1.below hb2
    have q0 := X0.lt
    have q1 := X1.lt
    have q6 := X6.lt
    have k0 := X0.c
    have k1 := X1.c
    have k6 := X6.c
    clear hb2
    go_wp2_with fail
    refine (refPut_any bk key off A n c hv B m d p last _ (hr0.alloc _) (hp0.alloc _) (by omega) (by omega)).mono ?_
    rintro e w3 ⟨A3, c3, B3, d3, n3, m3, rfl, r3, t3, hb3⟩
    clear k0 k1 k6
    generalize putR bk hv key off p last = r at r2 t2 r3 t3 hb3 ⊢
    have X7 := (Bx.new w2 #[Value.int IntKind.i64 r.1, Value.slice A2 n2 c2] 25 rfl).below hb3
    replace X0 := (X0.alloc _).below hb3
    replace X6 := (X6.alloc _).below hb3
    replace b0 := (b0.alloc (by omega) _).trans (hb3.mono (by simp; omega))
    replace hr0 := (hr0.alloc _).below hb3
    replace r1 := (r1.alloc _).below hb3
    replace r2 := (r2.alloc _).below hb3
    replace t2 := (t2.alloc _).below hb3
    have q0 := X0.lt
    have q6 := X6.lt
    have q7 := X7.lt
    have k0 := X0.c
    have k6 := X6.c
    have k7 := X7.c
    have e0 := fun o c => cv (hr0.alloc o) c
    have e1 := fun o c => cv (r1.alloc o) c
    have e2 := fun o c => cv (r2.alloc o) c
    have e3 := fun o c => cv (r3.alloc o) c
    have e4 := fun o c => cv (t2.alloc o) c
    have e5 := fun o c => cv (t3.alloc o) c
    clear hb3
    go_wp2_with fail
    refine (sure_any _).mono ?_
    rintro e w4 ⟨rfl, hb4⟩
    go_wp2_with fail
    go_ret
    exact ⟨rfl, (b0.alloc (by omega) _).trans (hb4.mono (by simp; omega))⟩
end Go.Proofs.Ytcdneioaifmilaa
