/- Walks of the law's giveEntry, giveEntries, giveLog. -/
import Derived.Test.YtefjejlpbfbpcaaDoorRo
import Derived.Deep.RegionHeld3
import Derived.Deep.RegionLaw
import Derived.Deep.DrawnRows
namespace Go.Proofs.YtefjejlpbfbpcaaDoor
open Go.RowKit
set_option maxRecDepth 100000
set_option linter.unusedVariables false
set_option linter.unusedSimpArgs false
attribute [local go_sem ↓] Go.wp_at_zero Go.wp_at_succ
theorem own_cap {w : World} {base : Nat} {e : TypeId} {size n c : Nat} {A : Option Addr} {xs : List Value} (h : w.ownsRow base e size (.slice A n c) n xs) : n ≤ c ∧ c ≤ maxLen := by
  obtain ⟨A', c', hv, h1, h2⟩ := own_form h
  injection hv with _ _ hv
  subst hv
  exact ⟨h1, h2⟩
def GivePost (W : World) (x : Er) (e : Ending) (w' : World) : Prop :=
  ∃ A m, e = .returned (.agg #[.int .i64 x.a, .int .i64 x.b, .int .i64 x.c, .slice A x.n m]) ∧ Rd w' (W.heap.size ≤ ·) 1 A x.n (bs x.d) ∧ x.n ≤ m ∧ m ≤ maxLen ∧ Below W.heap.size W w'
set_option maxHeartbeats 3200000 in
theorem give1_any (x : Er) (w : World) (hr : Rd w T 1 x.A x.n (bs x.d)) (hn : x.n ≤ 1000000) :
    Calls Tryd.prog 38 #[.agg #[.int .i64 x.a, .int .i64 x.b, .int .i64 x.c, .slice x.A x.n x.m]] w (GivePost w x) := by
  have hr' := hr.lt (by omega)
  obtain ⟨W0, hW0⟩ : ∃ W0, W0 = (w.alloc (.cells #[.int .i64 x.a, .int .i64 x.b, .int .i64 x.c, .slice x.A x.n x.m] 47)).alloc (.cells #[.int .i64 0, .int .i64 0, .int .i64 0, .slice none 0 0] 39) := ⟨_, rfl⟩
  have b0 : Bx W0 w.heap.size #[.int .i64 x.a, .int .i64 x.b, .int .i64 x.c, .slice x.A x.n x.m] := by subst hW0; exact (Bx.new _ _ _ rfl).alloc _
  have F0 : Fr W0 (w.heap.size + 1) 4 W0 := by subst hW0; exact Fr.new (by simp) rfl
  have r0 : Rd W0 (· < w.heap.size) 1 x.A x.n (bs x.d) := by subst hW0; exact ((hr'.mono fun b hb => hb.2).alloc _).alloc _
  have hbe : Below w.heap.size w W0 := by subst hW0; exact ((Below.refl _ _).alloc (Nat.le_refl _) _).alloc (by simp) _
  have hz : W0.heap.size = w.heap.size + 2 := by subst hW0; simp
  have u0 : W0.cell? ⟨w.heap.size, 0, none⟩ = some (.int .i64 x.a) := b0.c 0
  have u1 : W0.cell? ⟨w.heap.size, 1, none⟩ = some (.int .i64 x.b) := b0.c 1
  have u2 : W0.cell? ⟨w.heap.size, 2, none⟩ = some (.int .i64 x.c) := b0.c 2
  have u3 : W0.cell? ⟨w.heap.size, 3, none⟩ = some (.slice x.A x.n x.m) := b0.c 3
  have sof : ∀ W, Fr W0 (w.heap.size + 1) 4 W → (Fr W0 (w.heap.size + 1) 4 W ∧ W.cell? ⟨w.heap.size, 0, none⟩ = some (.int .i64 x.a) ∧ W.cell? ⟨w.heap.size, 1, none⟩ = some (.int .i64 x.b) ∧ W.cell? ⟨w.heap.size, 2, none⟩ = some (.int .i64 x.c) ∧ W.cell? ⟨w.heap.size, 3, none⟩ = some (.slice x.A x.n x.m) ∧ W.cell? ⟨w.heap.size + 1, 0, none⟩ = some (peek W (w.heap.size + 1) 0) ∧ W.cell? ⟨w.heap.size + 1, 1, none⟩ = some (peek W (w.heap.size + 1) 1) ∧ W.cell? ⟨w.heap.size + 1, 2, none⟩ = some (peek W (w.heap.size + 1) 2) ∧ W.cell? ⟨w.heap.size + 1, 3, none⟩ = some (peek W (w.heap.size + 1) 3) ∧ W.frozen? ⟨w.heap.size + 1, 0, none⟩ = false ∧ W.frozen? ⟨w.heap.size + 1, 1, none⟩ = false ∧ W.frozen? ⟨w.heap.size + 1, 2, none⟩ = false ∧ W.frozen? ⟨w.heap.size + 1, 3, none⟩ = false) :=
    fun W F2 => ⟨F2, F2.cell (by omega) u0, F2.cell (by omega) u1, F2.cell (by omega) u2, F2.cell (by omega) u3, F2.pk (by omega), F2.pk (by omega), F2.pk (by omega), F2.pk (by omega), F2.fz _, F2.fz _, F2.fz _, F2.fz _⟩
  have HW := Lib.hid hW0
  have s0 := sof _ F0
  have Hz := Lib.hid hz
  clear hW0 b0 u0 u1 u2 u3 hr hr' hz
  go_enter Tryd.func38, Tryd.ntmps38
  go_upto_region 2 with (fail)
  rw [← HW.out]
  go_split_ands
  go_region_held3 (fun W => Fr W0 (w.heap.size + 1) 4 W ∧ W.cell? ⟨w.heap.size, 0, none⟩ = some (.int .i64 x.a) ∧ W.cell? ⟨w.heap.size, 1, none⟩ = some (.int .i64 x.b) ∧ W.cell? ⟨w.heap.size, 2, none⟩ = some (.int .i64 x.c) ∧ W.cell? ⟨w.heap.size, 3, none⟩ = some (.slice x.A x.n x.m) ∧ W.cell? ⟨w.heap.size + 1, 0, none⟩ = some (peek W (w.heap.size + 1) 0) ∧ W.cell? ⟨w.heap.size + 1, 1, none⟩ = some (peek W (w.heap.size + 1) 1) ∧ W.cell? ⟨w.heap.size + 1, 2, none⟩ = some (peek W (w.heap.size + 1) 2) ∧ W.cell? ⟨w.heap.size + 1, 3, none⟩ = some (peek W (w.heap.size + 1) 3) ∧ W.frozen? ⟨w.heap.size + 1, 0, none⟩ = false ∧ W.frozen? ⟨w.heap.size + 1, 1, none⟩ = false ∧ W.frozen? ⟨w.heap.size + 1, 2, none⟩ = false ∧ W.frozen? ⟨w.heap.size + 1, 3, none⟩ = false) ((refine sof _ ?_; first | exact F0.drew | (go_split_ands; exact Fr.grown (by assumption) hg4 (by simp)) | (go_split_ands; exact Fr.set (Fr.set (Fr.set (Fr.set (by assumption) _ _) _ _) _ _) _ _))) (first
    | (refine step_append_any (news := bs x.d) (c := x.m) _ Tryd.underlying36 u8_elem rfl (by omega) rfl rfl (by simp [Act.eval, Act.put]) (World.ownsRow_nil _ W0.heap.size 5 1) (by simp [Act.eval, Act.put]) r0.drew (bs_one _) (by omega) (Nat.le_refl _) (Nat.zero_add _) (List.nil_append _) ?_; intro A4 c4 w4 hown4 hg4 hat4; have F4 : Fr W0 (w.heap.size + 1) 4 w4 := Fr.grown (by go_split_ands; assumption) hg4 (by simp)))
  all_goals
    have q0 : w4.cell? ⟨w.heap.size + 1, 0, none⟩ = some (peek w4 (w.heap.size + 1) 0) := F4.pk (by omega)
    have q1 : w4.cell? ⟨w.heap.size + 1, 1, none⟩ = some (peek w4 (w.heap.size + 1) 1) := F4.pk (by omega)
    have q2 : w4.cell? ⟨w.heap.size + 1, 2, none⟩ = some (peek w4 (w.heap.size + 1) 2) := F4.pk (by omega)
    have q3 : w4.cell? ⟨w.heap.size + 1, 3, none⟩ = some (peek w4 (w.heap.size + 1) 3) := F4.pk (by omega)
    have FF := Fr.set (Fr.set (Fr.set (Fr.set F4 0 (.int .i64 x.a)) 1 (.int .i64 x.b)) 2 (.int .i64 x.c)) 3 (.slice A4 x.n c4)
    have hz := Hz.out
    go_wp2_with fail
    refine bodyPost_ret (by simp [results, Tryd.results38, go_sem, q0, q1, q2, q3]; rfl) rfl ?_
    have hm := own_cap hown4
    refine ⟨A4, c4, rfl, ?_, hm.1, hm.2, hbe.trans ((FF.to_below (B := w.heap.size) (by omega)))⟩
    have r4 := Rd.of_own hown4
    have hne : ¬ W0.heap.size ≤ w.heap.size + 1 := by omega
    exact ((((r4.setCell (p := ⟨w.heap.size + 1, 0, none⟩) hne _).setCell (p := ⟨w.heap.size + 1, 1, none⟩) hne _).setCell (p := ⟨w.heap.size + 1, 2, none⟩) hne _).setCell (p := ⟨w.heap.size + 1, 3, none⟩) hne _).mono fun b hb => by omega
/-- The same entries, one by one. -/
def Same (L L' : List Er) : Prop := L'.map en = L.map en
theorem Wel.of {W : World} {B n c : Nat} {A : Option Addr} {L L' : List Er} (hw : Wel L) (hs : Same L L') (h : Dat W L') : Wel L' := by
  intro y hy
  have hm : en y ∈ L.map en := by rw [← hs]; exact List.mem_map.2 ⟨y, hy, rfl⟩
  obtain ⟨x, hx, he⟩ := List.mem_map.1 hm
  have hx' := (hw x hx).1
  have e1 : x.a = y.a := congrArg En.a he
  have e2 : x.b = y.b := congrArg En.b he
  have e3 : x.c = y.c := congrArg En.c he
  unfold W64 at hx' ⊢
  rw [e1, e2, e3] at hx'
  exact ⟨hx', ((h y hy).1.blen).symm⟩
def GivesPost (W : World) (n : Nat) (L : List Er) (e : Ending) (w' : World) : Prop :=
  ∃ A c L', e = .returned (.slice A n c) ∧ Ro w' W.heap.size A n c L' ∧ Same L L' ∧ Below W.heap.size W w'
set_option maxHeartbeats 1600000 in
theorem gives_any (A : Option Addr) (n c : Nat) (L : List Er) (w : World) {ok : Nat → Prop} (hr : Rd w ok 4 A n (flat ecell L)) (hd : Dat w L) (hs : ∀ x ∈ L, x.n ≤ 1000000) (hn : n ≤ 1000000) :
    Calls Tryd.prog 12 #[.slice A n c] w (GivesPost w n L) := by
  have Hll := Lib.hid (hr.flen ecell_len (by omega))
  have Hd := Lib.hid hd
  have Hs := Lib.hid hs
  have Hr := Lib.hid hr
  clear hd hs hr
  go_enter Tryd.func12, Tryd.ntmps12
  go_wp2_with fail
  go_loopg [3, 4] n (fun m s3 s4 wr => ∃ (j : Nat) (A' : Option Addr) (c' : Nat) (L' : List Er), m = n - j ∧ j ≤ n ∧ s4 = .int .i64 j ∧ s3 = .slice A' j c' ∧ Ro wr w.heap.size A' j c' L' ∧ Same (L.take j) L' ∧ Below w.heap.size w wr)
  case atStart => exact ⟨0, none, 0, [], by omega, by omega, rfl, rfl, Ro.nil _ _, rfl, Below.refl _ _⟩
  case round =>
    obtain ⟨j, A', c', L', hm, hj, rfl, rfl, hro, hsm, hb⟩ := hrel
    have Hm := Lib.hid hm
    have Ro1 := Lib.hid hro
    have Sm := Lib.hid hsm
    have Hb := Lib.hid hb
    clear hm hro hsm hb
    by_cases hlt : j < n
    · obtain ⟨b, o, x, rfl, _, hbl, hx, c0, c1, c2, c3⟩ := er_cells (Hr.out.below Hb.out) hlt
      have hjI : (j : Int) < n := by omega
      have hdx := (Hd.out x (List.mem_of_getElem? hx)).1.below Hb.out
      have hxn := Hs.out x (List.mem_of_getElem? hx)
      have hg1 := give1_any x wr hdx hxn
      have Hg1 := Lib.hid hg1
      have Hx := Lib.hid hx
      clear hdx hx hg1
      go_wp2_with fail
      refine Hg1.out.mono ?_
      rintro e w2 ⟨A2, m2, rfl, r2, hm1, hm2, hb2⟩
      have ro2 := Ro1.out.below hb2
      have hz2 := hb2.size
      have hz1 := Hb.out.size
      have R2 := Lib.hid r2
      have Ro2 := Lib.hid ro2
      have Hb2 := Lib.hid hb2
      clear r2 ro2 hb2
      go_wp2_with (at_builtin; refine wpList_append_any (news := [.int .i64 x.a, .int .i64 x.b, .int .i64 x.c, .slice A2 x.n m2]) _ Tryd.underlying29 ent_elem rfl (by omega) rfl rfl rfl (Ro2.out.alloc _).ow rfl (show Rd (w2.alloc (.cells #[.int .i64 x.a, .int .i64 x.b, .int .i64 x.c, .slice A2 x.n m2] 39)) T 4 (some ⟨w2.heap.size, 0, none⟩) 1 [.int .i64 x.a, .int .i64 x.b, .int .i64 x.c, .slice A2 x.n m2] from (Rd.lit4 _ _ rfl)) (by intro u hu; simp only [List.mem_cons, List.not_mem_nil, or_false] at hu; rcases hu with rfl | rfl | rfl | rfl <;> rfl) (by omega) (by simp; omega) rfl rfl ?_; intro A3 c3' w3 hown3 hg3 hat3)
      have hpush := (Ro2.out.alloc (.cells #[.int .i64 x.a, .int .i64 x.b, .int .i64 x.c, .slice A2 x.n m2] 39)).push (y := ⟨x.a, x.b, x.c, A2, x.n, m2, x.d⟩) ((R2.out.alloc _).mono fun b hb => ⟨by omega, fun e => by have := own_lt Ro1.out.ow b e; omega⟩) hm1 hm2 rfl hown3 hg3 hat3
      have hsm2 : Same (L.take (j + 1)) (L' ++ [⟨x.a, x.b, x.c, A2, x.n, m2, x.d⟩]) := by
        unfold Same
        rw [List.take_add_one, Hx.out, List.map_append, List.map_append, Sm.out]
        rfl
      have hb3 := (((Hb.out.trans (Hb2.out.mono Hb.out.size)).alloc (by omega) (.cells #[.int .i64 x.a, .int .i64 x.b, .int .i64 x.c, .slice A2 x.n m2] 39))).grown hg3 (by simp; omega) (fun q hq => (own_lt Ro1.out.ow q hq).1)
      go_roundg (n - (j + 1))
      case measure => have := Hm.out; omega
      case rel => exact ⟨j + 1, A3, c3', _, rfl, by omega, by go_num, rfl, hpush, hsm2, hb3⟩
    · obtain rfl : j = n := by omega
      go_wp2_with fail
      go_ret
      exact ⟨A', c', L', rfl, Ro1.out, by have := Sm.out; rwa [List.take_of_length_le (Nat.le_of_eq Hll.out)] at this, Hb.out⟩
def LogPost (W : World) (b t : Int) (n : Nat) (L : List Er) (e : Ending) (w' : World) : Prop :=
  ∃ A c L', e = .returned (.agg #[.int .i64 b, .int .i64 t, .slice A n c]) ∧ Rd w' T 4 A n (flat ecell L') ∧ Dat w' L' ∧ Same L L' ∧ n ≤ c ∧ c ≤ maxLen ∧ Below W.heap.size W w'
set_option maxHeartbeats 3200000 in
theorem giveLog_any (b t : Int) (A : Option Addr) (n c : Nat) (L : List Er) (w : World) (hr : Rd w T 4 A n (flat ecell L)) (hd : Dat w L) (hs : ∀ x ∈ L, x.n ≤ 1000000) (hn : n ≤ 1000000) :
    Calls Tryd.prog 11 #[.agg #[.int .i64 b, .int .i64 t, .slice A n c]] w (LogPost w b t n L) := by
  have hr' := hr.lt (by omega)
  obtain ⟨W0, hW0⟩ : ∃ W0, W0 = (w.alloc (.cells #[.int .i64 b, .int .i64 t, .slice A n c] 24)).alloc (.cells #[.int .i64 0, .int .i64 0, .slice none 0 0] 31) := ⟨_, rfl⟩
  have b0 : Bx W0 w.heap.size #[.int .i64 b, .int .i64 t, .slice A n c] := by subst hW0; exact (Bx.new _ _ _ rfl).alloc _
  have F0 : Fr W0 (w.heap.size + 1) 3 W0 := by subst hW0; exact Fr.new (by simp) rfl
  have r0 : Rd W0 (· < w.heap.size) 4 A n (flat ecell L) := by subst hW0; exact ((hr'.mono fun b hb => hb.2).alloc _).alloc _
  have d0 : ∀ x ∈ L, Rd W0 (· < w.heap.size) 1 x.A x.n (bs x.d) ∧ x.n ≤ x.m ∧ x.m ≤ maxLen := by
    subst hW0
    exact fun x hx => ⟨(((((hd x hx).1.lt (by omega)).mono fun b hb => hb.2).alloc _).alloc _), (hd x hx).2⟩
  have hbe : Below w.heap.size w W0 := by subst hW0; exact ((Below.refl _ _).alloc (Nat.le_refl _) _).alloc (by simp) _
  have hz : W0.heap.size = w.heap.size + 2 := by subst hW0; simp
  have u0 : W0.cell? ⟨w.heap.size, 0, none⟩ = some (.int .i64 b) := b0.c 0
  have u1 : W0.cell? ⟨w.heap.size, 1, none⟩ = some (.int .i64 t) := b0.c 1
  have u2 : W0.cell? ⟨w.heap.size, 2, none⟩ = some (.slice A n c) := b0.c 2
  have sof : ∀ W, Fr W0 (w.heap.size + 1) 3 W → (Fr W0 (w.heap.size + 1) 3 W ∧ W.cell? ⟨w.heap.size, 0, none⟩ = some (.int .i64 b) ∧ W.cell? ⟨w.heap.size, 1, none⟩ = some (.int .i64 t) ∧ W.cell? ⟨w.heap.size, 2, none⟩ = some (.slice A n c) ∧ W.cell? ⟨w.heap.size + 1, 0, none⟩ = some (peek W (w.heap.size + 1) 0) ∧ W.cell? ⟨w.heap.size + 1, 1, none⟩ = some (peek W (w.heap.size + 1) 1) ∧ W.cell? ⟨w.heap.size + 1, 2, none⟩ = some (peek W (w.heap.size + 1) 2) ∧ W.frozen? ⟨w.heap.size + 1, 0, none⟩ = false ∧ W.frozen? ⟨w.heap.size + 1, 1, none⟩ = false ∧ W.frozen? ⟨w.heap.size + 1, 2, none⟩ = false) :=
    fun W F2 => ⟨F2, F2.cell (by omega) u0, F2.cell (by omega) u1, F2.cell (by omega) u2, F2.pk (by omega), F2.pk (by omega), F2.pk (by omega), F2.fz _, F2.fz _, F2.fz _⟩
  have hgv := fun W (h : Fr W0 (w.heap.size + 1) 3 W) => gives_any A n c L W (h.rd r0 (by omega)) (fun x hx => ⟨(h.rd (d0 x hx).1 (by omega)).any, (d0 x hx).2⟩) hs hn
  have Hgv := Lib.hid hgv
  have HW := Lib.hid hW0
  have s0 := sof _ F0
  have Hz := Lib.hid hz
  clear hW0 b0 u0 u1 u2 hr hr' hz r0 d0 hgv hd hs
  go_enter Tryd.func11, Tryd.ntmps11
  go_upto_region 1 with (fail)
  rw [← HW.out]
  go_split_ands
  go_region_held3 (fun W => Fr W0 (w.heap.size + 1) 3 W ∧ W.cell? ⟨w.heap.size, 0, none⟩ = some (.int .i64 b) ∧ W.cell? ⟨w.heap.size, 1, none⟩ = some (.int .i64 t) ∧ W.cell? ⟨w.heap.size, 2, none⟩ = some (.slice A n c) ∧ W.cell? ⟨w.heap.size + 1, 0, none⟩ = some (peek W (w.heap.size + 1) 0) ∧ W.cell? ⟨w.heap.size + 1, 1, none⟩ = some (peek W (w.heap.size + 1) 1) ∧ W.cell? ⟨w.heap.size + 1, 2, none⟩ = some (peek W (w.heap.size + 1) 2) ∧ W.frozen? ⟨w.heap.size + 1, 0, none⟩ = false ∧ W.frozen? ⟨w.heap.size + 1, 1, none⟩ = false ∧ W.frozen? ⟨w.heap.size + 1, 2, none⟩ = false) ((refine sof _ ?_; first | exact F0.drew | (go_split_ands; exact Fr.below (by assumption) (by assumption)) | (go_split_ands; exact Fr.set (Fr.set (Fr.set (by assumption) _ _) _ _) _ _))) (first
    | (go_at_call 12; refine (Hgv.out _ (by go_split_ands; assumption)).mono ?_; rintro e w4 ⟨A4, c4, L4, rfl, ro4, sm4, hb4⟩; have F4 : Fr W0 (w.heap.size + 1) 3 w4 := Fr.below (by go_split_ands; assumption) hb4; have z4 : W0.heap.size ≤ W0.drew.heap.size := Nat.le_refl _))
  all_goals
    have q0 : w4.cell? ⟨w.heap.size + 1, 0, none⟩ = some (peek w4 (w.heap.size + 1) 0) := F4.pk (by omega)
    have q1 : w4.cell? ⟨w.heap.size + 1, 1, none⟩ = some (peek w4 (w.heap.size + 1) 1) := F4.pk (by omega)
    have q2 : w4.cell? ⟨w.heap.size + 1, 2, none⟩ = some (peek w4 (w.heap.size + 1) 2) := F4.pk (by omega)
    have FF := Fr.set (Fr.set (Fr.set F4 0 (.int .i64 b)) 1 (.int .i64 t)) 2 (.slice A4 n c4)
    have hz := Hz.out
    go_wp2_with fail
    refine bodyPost_ret (by simp [results, Tryd.results11, go_sem, q0, q1, q2]; rfl) rfl ?_
    have hm := own_cap ro4.ow
    have hne : ¬ W0.drew.heap.size ≤ w.heap.size + 1 := by show ¬ W0.heap.size ≤ _; omega
    refine ⟨A4, c4, L4, rfl, ?_, fun y hy => ⟨?_, (ro4.dt y hy).2⟩, sm4, hm.1, hm.2, hbe.trans (FF.to_below (B := w.heap.size) (by omega))⟩
    · exact ((((Rd.of_own ro4.ow).setCell (p := ⟨w.heap.size + 1, 0, none⟩) hne _).setCell (p := ⟨w.heap.size + 1, 1, none⟩) hne _).setCell (p := ⟨w.heap.size + 1, 2, none⟩) hne _).any
    · exact ((((ro4.dat_from y hy).1.setCell (p := ⟨w.heap.size + 1, 0, none⟩) hne _).setCell (p := ⟨w.heap.size + 1, 1, none⟩) hne _).setCell (p := ⟨w.heap.size + 1, 2, none⟩) hne _).any
end Go.Proofs.YtefjejlpbfbpcaaDoor
