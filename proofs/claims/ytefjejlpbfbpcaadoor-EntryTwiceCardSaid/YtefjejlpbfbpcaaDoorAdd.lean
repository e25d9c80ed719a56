/- Walk of entry.Add, where an entry can be added. -/
import Derived.Test.YtefjejlpbfbpcaaDoorOwn
import Derived.Test.YtefjejlpbfbpcaaDoorTerm
namespace Go.Proofs.YtefjejlpbfbpcaaDoor
open Go.RowKit
set_option maxRecDepth 100000
set_option linter.unusedVariables false
set_option linter.unusedSimpArgs false
attribute [local go_sem ↓] Go.wp_at_zero Go.wp_at_succ
/-- What a log's rows hold, all from block B on. -/
def DatB (w : World) (B : Nat) (l : List Er) : Prop := ∀ y ∈ l, Rd w (B ≤ ·) 1 y.A y.n (bs y.d) ∧ y.n ≤ y.m ∧ y.m ≤ maxLen
theorem DatB.dat {w : World} {B : Nat} {l : List Er} (h : DatB w B l) : Dat w l := fun y hy => ⟨(h y hy).1.any, (h y hy).2⟩
theorem DatB.set {w : World} {B : Nat} {l : List Er} (h : DatB w B l) {p : Addr} (hp : ¬ B ≤ p.block) (v : Value) : DatB (w.setCell p v) B l := fun y hy => ⟨(h y hy).1.setCell hp v, (h y hy).2⟩
theorem DatB.mono {w : World} {B B' : Nat} {l : List Er} (h : DatB w B l) (hB : B' ≤ B) : DatB w B' l := fun y hy => ⟨(h y hy).1.mono fun b hb => Nat.le_trans hB hb, (h y hy).2⟩
theorem DatB.below {w w' : World} {B : Nat} {l : List Er} (h : DatB w B l) (hb : Below w.heap.size w w') : DatB w' B l := fun y hy => ⟨(h y hy).1.below hb, (h y hy).2⟩
theorem Ro.datB {W : World} {B B0 n c : Nat} {A : Option Addr} {l : List Er} (h : Ro W B A n c l) (hB : B0 ≤ B) : DatB W B0 l := fun y hy => ⟨(h.dt y hy).1.mono fun b hb => Nat.le_trans hB hb.1, (h.dt y hy).2⟩
theorem add_end {W W6 : World} {Bx B0 n c4 : Nat} {A4 : Option Addr} {L4 : List Er} {y : Er} (hro : Ro W Bx A4 n c4 L4) (hnew : Rd W (fun b => B0 ≤ b ∧ A4.map (·.block) ≠ some b) 1 y.A y.n (bs y.d)) (h1 : y.n ≤ y.m) (h2 : y.m ≤ maxLen) (hB : B0 ≤ Bx) (hg6 : W.grownBy W6 (A4.map (·.block))) : DatB W6 B0 (L4 ++ [y]) := by
  intro z hz
  have hz' : Rd W (fun b => B0 ≤ b ∧ A4.map (·.block) ≠ some b) 1 z.A z.n (bs z.d) ∧ z.n ≤ z.m ∧ z.m ≤ maxLen := by
    rcases List.mem_append.1 hz with hz | hz
    · exact ⟨(hro.dt z hz).1.mono fun b hb => ⟨Nat.le_trans hB hb.1, hb.2⟩, (hro.dt z hz).2⟩
    · obtain rfl := List.mem_singleton.1 hz
      exact ⟨hnew, h1, h2⟩
  exact ⟨(hz'.1.grown hg6 (fun g hg h => h.2 hg)).mono fun b hb => hb.1, hz'.2⟩
def AddPost (W : World) (b t tm kd z : Int) (n : Nat) (L : List Er) (d : List UInt8) (e : Ending) (w' : World) : Prop :=
  ∃ A c L', e = .returned (.tuple #[.agg #[.int .i64 b, .int .i64 t, .slice A (n + 1) c], .nilIface]) ∧ Rd w' (W.heap.size ≤ ·) 4 A (n + 1) (flat ecell L') ∧ DatB w' W.heap.size L' ∧ L'.map en = L.map en ++ [⟨z + 1, tm, kd, d⟩] ∧ n + 1 ≤ c ∧ Below W.heap.size W w'
set_option maxHeartbeats 1600000 in
theorem add_yes (b t tm kd : Int) (A : Option Addr) (n c : Nat) (L : List Er) (Ad : Option Addr) (nd cd : Nat) (d : List UInt8) (w : World) (hr : Rd w T 4 A n (flat ecell L)) (hd : Dat w L) (hw : Wel L) (hs : ∀ x ∈ L, x.n ≤ 1000000) (hm : lmay b t (L.map en) = true) (hdr : Rd w T 1 Ad nd (bs d)) (hnd : (nd : Int) ≤ 4096)
    (h1 : lstB t (L.map en) ≤ tm) (h2 : 1 ≤ tm) (h3 : tm ≤ 1099511627776) (h4 : 0 ≤ kd) (h5 : kd ≤ 2) (h6 : lstA b (L.map en) < 1099511627776) (hn : (n : Int) < 4096) :
    Calls Tryd.prog 30 #[.agg #[.int .i64 b, .int .i64 t, .slice A n c], .int .i64 tm, .int .i64 kd, .slice Ad nd cd] w (AddPost w b t tm kd (lstA b (L.map en)) n L d) := by
  have hr' := hr.lt (by omega)
  have hdr' := hdr.lt (by omega)
  have hlast0 : 0 ≤ lstA b (L.map en) := by rw [lmay_last hm]; have := (lmay_iff.1 hm).1; omega
  obtain ⟨W0, hW0⟩ : ∃ W0, W0 = (w.alloc (.cells #[.int .i64 b, .int .i64 t, .slice A n c] 31)).alloc (.cells #[.int .i64 0, .int .i64 0, .slice none 0 0] 31) := ⟨_, rfl⟩
  have b0 : Bx W0 w.heap.size #[.int .i64 b, .int .i64 t, .slice A n c] := by subst hW0; exact (Bx.new _ _ _ rfl).alloc _
  have F0 : Fr W0 (w.heap.size + 1) 3 W0 := by subst hW0; exact Fr.new (by simp) rfl
  have r0 : Rd W0 (· < w.heap.size) 4 A n (flat ecell L) := by subst hW0; exact ((hr'.mono fun b hb => hb.2).alloc _).alloc _
  have e0 : Rd W0 (· < w.heap.size) 1 Ad nd (bs d) := by subst hW0; exact ((hdr'.mono fun b hb => hb.2).alloc _).alloc _
  have d0 : ∀ x ∈ L, Rd W0 (· < w.heap.size) 1 x.A x.n (bs x.d) ∧ x.n ≤ x.m ∧ x.m ≤ maxLen := by
    subst hW0
    exact fun x hx => ⟨(((((hd x hx).1.lt (by omega)).mono fun b hb => hb.2).alloc _).alloc _), (hd x hx).2⟩
  have hbe : Below w.heap.size w W0 := by subst hW0; exact ((Below.refl _ _).alloc (Nat.le_refl _) _).alloc (by simp) _
  have hz : W0.heap.size = w.heap.size + 2 := by subst hW0; simp
  have u0 : W0.cell? ⟨w.heap.size, 0, none⟩ = some (.int .i64 b) := b0.c 0
  have u1 : W0.cell? ⟨w.heap.size, 1, none⟩ = some (.int .i64 t) := b0.c 1
  have u2 : W0.cell? ⟨w.heap.size, 2, none⟩ = some (.slice A n c) := b0.c 2
  have sof : ∀ W, Fr W0 (w.heap.size + 1) 3 W → (Fr W0 (w.heap.size + 1) 3 W ∧ W.cell? ⟨w.heap.size, 0, none⟩ = some (.int .i64 b) ∧ W.cell? ⟨w.heap.size, 1, none⟩ = some (.int .i64 t) ∧ W.cell? ⟨w.heap.size, 2, none⟩ = some (.slice A n c) ∧ W.cell? ⟨w.heap.size + 1, 0, none⟩ = some (peek W (w.heap.size + 1) 0) ∧ W.cell? ⟨w.heap.size + 1, 1, none⟩ = some (peek W (w.heap.size + 1) 1) ∧ W.cell? ⟨w.heap.size + 1, 2, none⟩ = some (peek W (w.heap.size + 1) 2) ∧ W.frozen? ⟨w.heap.size + 1, 0, none⟩ = false ∧ W.frozen? ⟨w.heap.size + 1, 1, none⟩ = false ∧ W.frozen? ⟨w.heap.size + 1, 2, none⟩ = false) :=
    fun W F2 => ⟨F2, F2.cell (by omega) u0, F2.cell (by omega) u1, F2.cell (by omega) u2, F2.pk (by omega), F2.pk (by omega), F2.pk (by omega), F2.fz _, F2.fz _, F2.fz _⟩
  have hmm := fun W (h : Fr W0 (w.heap.size + 1) 3 W) => may_any b t A n c L W (h.rd r0 (by omega)) hw (by omega)
  have hlt := fun W (h : Fr W0 (w.heap.size + 1) 3 W) => last_any b t A n c L W (h.rd r0 (by omega)) (by omega)
  have how : ∀ W, Fr W0 (w.heap.size + 1) 3 W → Calls Tryd.prog 32 #[.slice A n c] W (fun e w' => ∃ A' c' L', e = .returned (.slice A' n c') ∧ Ro w' W.heap.size A' n c' L' ∧ Same L L' ∧ Below W.heap.size W w' ∧ W0.heap.size ≤ W.heap.size) := fun W h => (owns_any A n c L W (h.rd r0 (by omega)) (fun x hx => ⟨(h.rd (d0 x hx).1 (by omega)).any, (d0 x hx).2⟩) hs (by omega)).mono fun e w' ⟨A', c', L', h1, h2, h3, h4⟩ => ⟨A', c', L', h1, h2, h3, h4, h.gr.size⟩
  have hcl : ∀ W, Fr W0 (w.heap.size + 1) 3 W → Calls Tryd.prog 47 #[.slice Ad nd cd] W (fun e w' => ∃ A' c', e = .returned (.slice A' nd c') ∧ w'.ownsRow W.heap.size 5 1 (.slice A' nd c') nd (bs d) ∧ Below W.heap.size W w' ∧ W0.heap.size ≤ W.heap.size) := fun W h => (clone_any Ad nd cd (bs d) W (h.rd e0 (by omega)) (bs_one _) (by omega)).mono fun e w' ⟨A', c', h1, h2, h3⟩ => ⟨A', c', h1, h2, h3, h.gr.size⟩
  rw [hm] at hmm
  generalize lstA b (L.map en) = z at hlt hlast0 h6 ⊢
  generalize lstB t (L.map en) = y at hlt h1
  have Hmm := Lib.hid hmm
  have Hlt := Lib.hid hlt
  have How := Lib.hid how
  have Hcl := Lib.hid hcl
  have HW := Lib.hid hW0
  have s0 := sof _ F0
  have Hz := Lib.hid hz
  clear hW0 b0 u0 u1 u2 hr hr' hz r0 d0 e0 hmm hlt how hcl hd hs hw hdr hdr' hm
  have t1 : ¬ tm < y := by omega
  have t2 : ¬ tm < 1 := by omega
  have t3 : decide (1099511627776 < tm) = false := decide_eq_false (by omega)
  have t4 : decide (kd < 0) = false := decide_eq_false (by omega)
  have t5 : decide (2 < kd) = false := decide_eq_false (by omega)
  have t6 : decide (1099511627776 ≤ z) = false := decide_eq_false (by omega)
  have t7 : decide (4096 < (nd : Int)) = false := decide_eq_false (by omega)
  have t8 : decide (4096 ≤ (n : Int)) = false := decide_eq_false (by omega)
  have t9 : decide (tm < y) = false := decide_eq_false t1
  have t10 : decide (tm < 1) = false := decide_eq_false t2
  have w1 : IntKind.i64.wrap (z + 1) = z + 1 := by rw [IntKind.wrap_i64]; omega
  go_enter Tryd.func30, Tryd.ntmps30
  go_wp2_with fail
  rw [← HW.out]
  refine (Hmm.out _ F0).mono ?_
  rintro e w1 ⟨rfl, hb1⟩
  have F1 := F0.below hb1
  have s1 := sof _ F1
  go_split_ands
  go_wp2_with fail
  refine (Hlt.out _ F1).mono ?_
  rintro e w2 ⟨rfl, hb2⟩
  have F2 := F1.below hb2
  have s2 := sof _ F2
  go_split_ands
  go_wp2_with fail
  all_goals
    go_region_held3 (fun W => Fr W0 (w.heap.size + 1) 3 W ∧ W.cell? ⟨w.heap.size, 0, none⟩ = some (.int .i64 b) ∧ W.cell? ⟨w.heap.size, 1, none⟩ = some (.int .i64 t) ∧ W.cell? ⟨w.heap.size, 2, none⟩ = some (.slice A n c) ∧ W.cell? ⟨w.heap.size + 1, 0, none⟩ = some (peek W (w.heap.size + 1) 0) ∧ W.cell? ⟨w.heap.size + 1, 1, none⟩ = some (peek W (w.heap.size + 1) 1) ∧ W.cell? ⟨w.heap.size + 1, 2, none⟩ = some (peek W (w.heap.size + 1) 2) ∧ W.frozen? ⟨w.heap.size + 1, 0, none⟩ = false ∧ W.frozen? ⟨w.heap.size + 1, 1, none⟩ = false ∧ W.frozen? ⟨w.heap.size + 1, 2, none⟩ = false) ((refine sof _ ?_; first | exact F2.drew | (go_split_ands; exact Fr.below (by assumption) (by assumption)) | (go_split_ands; exact Fr.alloc (by assumption) _) | assumption | (go_split_ands; exact Fr.set (Fr.set (Fr.set (by assumption) _ _) _ _) _ _))) (first
      | (go_at_call 32; refine (How.out _ (by go_split_ands; assumption)).mono ?_; rintro e w4 ⟨A4, c4, L4, rfl, ro4, sm4, hb4, z4⟩; have F4 : Fr W0 (w.heap.size + 1) 3 w4 := Fr.below (by go_split_ands; assumption) hb4)
      | (go_at_call 47; refine (Hcl.out _ (by go_split_ands; assumption)).mono ?_; rintro e w5 ⟨A5, c5, rfl, ho5, hb5, z5⟩; have F5 : Fr W0 (w.heap.size + 1) 3 w5 := Fr.below (by go_split_ands; assumption) hb5)
      | (refine step_append_any (c := 1) (w := w5.alloc (.cells #[.int .i64 (z + 1), .int .i64 tm, .int .i64 kd, .slice A5 nd c5] 39)) (news := [.int .i64 (z + 1), .int .i64 tm, .int .i64 kd, .slice A5 nd c5]) Tryd.underlying29 ent_elem rfl (by omega) rfl rfl (by simp [Act.eval, Act.put]) ((ro4.below hb5).alloc (.cells #[.int .i64 (z + 1), .int .i64 tm, .int .i64 kd, .slice A5 nd c5] 39)).ow (by simp [Act.eval, Act.put]) (show Rd (w5.alloc (.cells #[.int .i64 (z + 1), .int .i64 tm, .int .i64 kd, .slice A5 nd c5] 39)) T 4 (some ⟨w5.heap.size, 0, none⟩) 1 [.int .i64 (z + 1), .int .i64 tm, .int .i64 kd, .slice A5 nd c5] from Rd.lit4 w5 _ rfl) (by intro u hu; simp only [List.mem_cons, List.not_mem_nil, or_false] at hu; rcases hu with rfl | rfl | rfl | rfl <;> rfl) (by omega) (by have := hb4.size; have := hb5.size; simp at *; omega) rfl rfl ?_; intro A6 c6 w6 hown6 hg6 hat6; have hd6 := add_end (B0 := W0.heap.size) (y := ⟨z + 1, tm, kd, A5, nd, c5, d⟩) ((ro4.below hb5).alloc (.cells #[.int .i64 (z + 1), .int .i64 tm, .int .i64 kd, .slice A5 nd c5] 39)) (((Rd.of_own ho5).alloc _).mono fun q hq => ⟨by have := hb4.size; simp at *; omega, fun e => by have := own_lt ro4.ow q e; omega⟩) (own_cap ho5).1 (own_cap ho5).2 z4 hg6; have F6 : Fr W0 (w.heap.size + 1) 3 w6 := Fr.grown (by go_split_ands; assumption) hg6 (fun g hg => Nat.le_trans z4 (own_lt ro4.ow g hg).1))
      | (refine step_append_any (c := 1) (w := w4.alloc (.cells #[.int .i64 (z + 1), .int .i64 tm, .int .i64 kd, .slice A5 nd c5] 39)) (news := [.int .i64 (z + 1), .int .i64 tm, .int .i64 kd, .slice A5 nd c5]) Tryd.underlying29 ent_elem rfl (by omega) rfl rfl (by simp [Act.eval, Act.put]) (ro4.alloc (.cells #[.int .i64 (z + 1), .int .i64 tm, .int .i64 kd, .slice A5 nd c5] 39)).ow (by simp [Act.eval, Act.put]) (show Rd (w4.alloc (.cells #[.int .i64 (z + 1), .int .i64 tm, .int .i64 kd, .slice A5 nd c5] 39)) T 4 (some ⟨w4.heap.size, 0, none⟩) 1 [.int .i64 (z + 1), .int .i64 tm, .int .i64 kd, .slice A5 nd c5] from Rd.lit4 w4 _ rfl) (by intro u hu; simp only [List.mem_cons, List.not_mem_nil, or_false] at hu; rcases hu with rfl | rfl | rfl | rfl <;> rfl) (by omega) (by have := hb4.size; simp at *; omega) rfl rfl ?_; intro A6 c6 w6 hown6 hg6 hat6; have hd6 := add_end (B0 := W0.heap.size) (y := ⟨z + 1, tm, kd, A5, nd, c5, d⟩) (ro4.alloc (.cells #[.int .i64 (z + 1), .int .i64 tm, .int .i64 kd, .slice A5 nd c5] 39)) (((((Rd.of_own ho5).lt (by omega)).below hb4).alloc _).mono fun q hq => ⟨by have := hq.1; simp at *; omega, fun e => by have := own_lt ro4.ow q e; have := hq.2; omega⟩) (own_cap ho5).1 (own_cap ho5).2 z4 hg6; have F6 : Fr W0 (w.heap.size + 1) 3 w6 := Fr.grown (by go_split_ands; assumption) hg6 (fun g hg => Nat.le_trans z4 (own_lt ro4.ow g hg).1))
      | (refine step_append_any (c := 1) (w := w4) (news := [.int .i64 (z + 1), .int .i64 tm, .int .i64 kd, .slice A5 nd c5]) Tryd.underlying29 ent_elem rfl (by omega) rfl rfl (by simp [Act.eval, Act.put]) ro4.ow (by simp [Act.eval, Act.put]) ((show Rd (w5.alloc (.cells #[.int .i64 (z + 1), .int .i64 tm, .int .i64 kd, .slice A5 nd c5] 39)) T 4 (some ⟨w5.heap.size, 0, none⟩) 1 [.int .i64 (z + 1), .int .i64 tm, .int .i64 kd, .slice A5 nd c5] from Rd.lit4 w5 _ rfl).below hb4) (by intro u hu; simp only [List.mem_cons, List.not_mem_nil, or_false] at hu; rcases hu with rfl | rfl | rfl | rfl <;> rfl) (by omega) hb4.size rfl rfl ?_; intro A6 c6 w6 hown6 hg6 hat6; have hd6 := add_end (B0 := W0.heap.size) (y := ⟨z + 1, tm, kd, A5, nd, c5, d⟩) ro4 ((((((Rd.of_own ho5).lt (by omega)).alloc _).below hb4)).mono fun q hq => ⟨by have := hq.1; simp at *; omega, fun e => by have := own_lt ro4.ow q e; have := hq.2; simp at *; omega⟩) (own_cap ho5).1 (own_cap ho5).2 z4 hg6; have F6 : Fr W0 (w.heap.size + 1) 3 w6 := Fr.grown (by go_split_ands; assumption) hg6 (fun g hg => Nat.le_trans z4 (own_lt ro4.ow g hg).1)))
  all_goals
    have q0 : w6.cell? ⟨w.heap.size + 1, 0, none⟩ = some (peek w6 (w.heap.size + 1) 0) := F6.pk (by omega)
    have q1 : w6.cell? ⟨w.heap.size + 1, 1, none⟩ = some (peek w6 (w.heap.size + 1) 1) := F6.pk (by omega)
    have q2 : w6.cell? ⟨w.heap.size + 1, 2, none⟩ = some (peek w6 (w.heap.size + 1) 2) := F6.pk (by omega)
    have FF := Fr.set (Fr.set (Fr.set F6 0 (.int .i64 b)) 1 (.int .i64 t)) 2 (.slice A6 (n + 1) c6)
    have hz := Hz.out
    go_wp2_with fail
    refine bodyPost_ret (by simp [results, Tryd.results30, go_sem, q0, q1, q2]; rfl) rfl ?_
    have hcap := own_cap hown6
    have hne : ¬ W0.heap.size ≤ w.heap.size + 1 := by omega
    refine ⟨A6, c6, L4 ++ [⟨z + 1, tm, kd, A5, nd, c5, d⟩], rfl, ?_, (((hd6.set (p := ⟨w.heap.size + 1, 0, none⟩) hne _).set (p := ⟨w.heap.size + 1, 1, none⟩) hne _).set (p := ⟨w.heap.size + 1, 2, none⟩) hne _).mono (by omega), ?_, hcap.1, hbe.trans (FF.to_below (B := w.heap.size) (by omega))⟩
    · rw [flat_append, flat_one]
      exact (((((Rd.of_own hown6).mono (ok' := (W0.heap.size ≤ ·)) fun q hq => Nat.le_trans z4 hq).setCell (p := ⟨w.heap.size + 1, 0, none⟩) hne _).setCell (p := ⟨w.heap.size + 1, 1, none⟩) hne _).setCell (p := ⟨w.heap.size + 1, 2, none⟩) hne _).mono fun q hq => by omega
    · rw [List.map_append, sm4]
      rfl
end Go.Proofs.YtefjejlpbfbpcaaDoor
