/- Two rows of numbers of the law's own beside a member in memory.
   What is kept fits where its copy does (cut out of lib's Kp2 by mk13.py).
   The law's giveLog: all that it gives is new. (Printed by mklaw15.py out of c09's XGive.)
   Walk: the law's giveStored. (Printed by mkgive15.py.)
   Walks: the law's giveMsg and longMsg. (Printed by mkgm.py.) -/
import Derived.Test.YtmhaahcbmdhinaaGreatDoorKW26
import Derived.Test.YtmhaahcbmdhinaaGreatDoorKW10
import Derived.Test.YtmhaahcbmdhinaaGreatDoorKW16
import Derived.Test.YtmhaahcbmdhinaaGreatDoorKW24
import Derived.Test.YtmhaahcbmdhinaaGreatDoorKW25
import Derived.Test.YtmhaahcbmdhinaaGreatDoorKW14
import Derived.Test.YtmhaahcbmdhinaaGreatDoorKW20
namespace Go.Proofs.YtmhaahcbmdhinaaGreatDoor
open Go.RowKit
set_option maxRecDepth 100000
set_option linter.unusedVariables false
set_option linter.unusedSimpArgs false
structure Two (B : Nat) (W : World) (V U : Nat → Prop) (A7 : Option Addr) (c7 : Nat) (A8 : Option Addr) (c8 : Nat) (G : List (Int × Int)) : Prop where
  o7 : W.ownsRow B 3 1 (.slice A7 G.length c7) G.length (ii (G.map Prod.fst))
  o8 : W.ownsRow B 3 1 (.slice A8 G.length c8) G.length (ii (G.map Prod.snd))
  d : ∀ b, A7.map (·.block) = some b → A8.map (·.block) ≠ some b
  u7 : ∀ b, A7.map (·.block) = some b → U b ∧ ¬ V b
  u8 : ∀ b, A8.map (·.block) = some b → U b ∧ ¬ V b
section
variable {B fb p : Nat} {w0 W W' Wa wb Wc wd : World} {V U V' U' V0 U0 : Nat → Prop} {A7 A8 A7' A8' : Option Addr} {c7 c8 c7' c8' : Nat} {G : List (Int × Int)} {C C' : Cr} {m m' : Mb}
theorem Two.nil : Two B W V U none 0 none 0 [] := ⟨World.ownsRow_nil _ _ _ _, World.ownsRow_nil _ _ _ _, (fun b h => by cases h), (fun b h => by cases h), fun b h => by cases h⟩
theorem Two.to (h : Two B W V U A7 c7 A8 c8 G) (hk : Kept V W W') (hv : ∀ b, V' b → V b ∨ W.heap.size ≤ b) (hu : ∀ b, U b → U' b) (hl : ∀ b, U b → b < W.heap.size) : Two B W' V' U' A7 c7 A8 c8 G :=
  ⟨hk.own h.o7 fun b hb => (h.u7 b hb).2, hk.own h.o8 fun b hb => (h.u8 b hb).2, h.d,
    fun b hb => ⟨hu b (h.u7 b hb).1, fun h9 => (hv b h9).elim (h.u7 b hb).2 fun h8 => by have := hl b (h.u7 b hb).1; omega⟩,
    fun b hb => ⟨hu b (h.u8 b hb).1, fun h9 => (hv b h9).elim (h.u8 b hb).2 fun h8 => by have := hl b (h.u8 b hb).1; omega⟩⟩
theorem Two.below (h : Two B W V U A7 c7 A8 c8 G) (hb : Below W.heap.size W W') : Two B W' V U A7 c7 A8 c8 G := ⟨own_below h.o7 hb, own_below h.o8 hb, h.d, h.u7, h.u8⟩
theorem Two.push {t f : Int} {k : Nat} (hto : CTo fb w0 p V0 U0 C W V U m) (h : Two w0.heap.size W V U A7 c7 A8 c8 G) (hfb : fb ≤ w0.heap.size) (hk : G.length + 1 = k)
    (ha : Below W.heap.size W Wa) (o7 : wb.ownsRow w0.heap.size 3 1 (.slice A7' k c7') k (ii (G.map Prod.fst) ++ ii [t])) (g7 : Wa.grownBy wb (A7.map (·.block))) (a7 : A7'.map (·.block) = A7.map (·.block) ∨ A7'.map (·.block) = some Wa.heap.size)
    (hc : Below wb.heap.size wb Wc) (o8 : wd.ownsRow w0.heap.size 3 1 (.slice A8' k c8') k (ii (G.map Prod.snd) ++ ii [f])) (g8 : Wc.grownBy wd (A8.map (·.block))) (a8 : A8'.map (·.block) = A8.map (·.block) ∨ A8'.map (·.block) = some Wc.heap.size) :
    ∃ U', CTo fb w0 p V0 U0 C wd V U' m ∧ Two w0.heap.size wd V U' A7' c7' A8' c8' (G ++ [(t, f)]) := by
  have z1 := ha.size
  have z2 := g7.size
  have z3 := hc.size
  have z4 := g8.size
  have z0 := hto.kept.size
  have hl7 := own_lt h.o7
  have hl8 := own_lt h.o8
  have hbl : ∀ b, b < W.heap.size → A7.map (·.block) ≠ some b → A8.map (·.block) ≠ some b → wd.heap[b]? = W.heap[b]? := fun b hl h1 h2 => by
    rw [g8.block b (by omega) (fun e => h2 e.symm), hc.block b (by omega), g7.block b (by omega) (fun e => h1 e.symm), ha.block b hl]
  have hcx : CX fb wd p V (fun b => U b ∨ (W.heap.size ≤ b ∧ b < wd.heap.size)) C m := by
    refine hto.cx.wide (fun b hb => .inl hb) (fun b hl hb => hb.elim id fun h9 => by omega) (fun b hl hb => hbl b hl (fun e => ?_) fun e => ?_) (by omega) fun b hb => hb.elim (fun h9 => by have := hto.cx.ul b h9; omega) fun h9 => h9.2
    · have := h.u7 b e
      exact hb.elim (fun h9 => this.2 h9) fun h9 => h9 this.1
    · have := h.u8 b e
      exact hb.elim (fun h9 => this.2 h9) fun h9 => h9 this.1
  refine ⟨_, ⟨hcx, hto.vs, fun b hb => .inl (hto.us b hb), fun b hb => hb.elim (hto.un b) fun h9 => .inr (by omega), ?_⟩, ?_⟩
  · refine ⟨?_, ?_, ?_, by omega, fun b hl hv => ?_⟩
    · rw [g8.os, hc.os, g7.os, ha.os, hto.kept.os]
    · rw [g8.tape, hc.tape, g7.tape, ha.tape, hto.kept.tape]
    · rw [g8.output, hc.output, g7.output, ha.output, hto.kept.output]
    · rw [hbl b (by omega) (fun e => by have := (hl7 b e).1; omega) (fun e => by have := (hl8 b e).1; omega), hto.kept.block b hl hv]
  · have e1 : (G ++ [(t, f)]).length = k := by simp; exact hk
    have n7 : ∀ b, A7'.map (·.block) = some b → A7.map (·.block) = some b ∨ b = Wa.heap.size := fun b hb => a7.elim (fun e => .inl (e ▸ hb)) fun e => .inr (Option.some.inj (hb.symm.trans e))
    have n8 : ∀ b, A8'.map (·.block) = some b → A8.map (·.block) = some b ∨ b = Wc.heap.size := fun b hb => a8.elim (fun e => .inl (e ▸ hb)) fun e => .inr (Option.some.inj (hb.symm.trans e))
    have l7 := own_lt o7
    have l8 := own_lt o8
    have hd : ∀ b, A7'.map (·.block) = some b → A8'.map (·.block) ≠ some b := fun b hb hb2 => by
      rcases n7 b hb with e | e <;> rcases n8 b hb2 with e' | e'
      · exact h.d b e e'
      · have := (hl7 b e).2; omega
      · have := (hl8 b e').2; omega
      · have := (l7 b hb).2; omega
    have hw : wd.ownsRow w0.heap.size 3 1 (.slice A7' k c7') k (ii (G.map Prod.fst) ++ ii [t]) := by
      refine (own_below o7 hc).kept g8 ?_
      cases hA : A7' with
      | none => exact .inl rfl
      | some a =>
        refine .inr fun e => ?_
        have e9 : some a.block = A8.map (·.block) := e
        rcases n7 a.block (by rw [hA]; rfl) with e' | e'
        · exact h.d _ e' e9.symm
        · have := (hl8 _ e9.symm).2; omega
    refine ⟨?_, ?_, hd, fun b hb => ⟨?_, ?_⟩, fun b hb => ⟨?_, ?_⟩⟩
    · rw [e1, List.map_append]
      have : ii (G.map Prod.fst ++ [t]) = ii (G.map Prod.fst) ++ ii [t] := by simp [ii]
      show wd.ownsRow _ _ _ _ _ (ii (G.map Prod.fst ++ [t]))
      rw [this]
      exact hw
    · rw [e1, List.map_append]
      have : ii (G.map Prod.snd ++ [f]) = ii (G.map Prod.snd) ++ ii [f] := by simp [ii]
      show wd.ownsRow _ _ _ _ _ (ii (G.map Prod.snd ++ [f]))
      rw [this]
      exact o8
    · rcases n7 b hb with e | e
      · exact .inl (h.u7 b e).1
      · right; have := (l7 b hb).2; omega
    · rcases n7 b hb with e | e
      · exact (h.u7 b e).2
      · intro hv; have := hto.cx.ul b (hto.cx.vu b hv); omega
    · rcases n8 b hb with e | e
      · exact .inl (h.u8 b e).1
      · right; have := (l8 b hb).2; omega
    · rcases n8 b hb with e | e
      · exact (h.u8 b e).2
      · intro hv; have := hto.cx.ul b (hto.cx.vu b hv); omega
end
theorem Two.mid {B : Nat} {W Wa wb : World} {V U : Nat → Prop} {A7 A8 : Option Addr} {c7 c8 : Nat} {G : List (Int × Int)} (h : Two B W V U A7 c7 A8 c8 G) (ha : Below W.heap.size W Wa) (g7 : Wa.grownBy wb (A7.map (·.block))) :
    wb.ownsRow B 3 1 (.slice A8 G.length c8) G.length (ii (G.map Prod.snd)) ∧ ∀ g cs, Bx W g cs → A7.map (·.block) ≠ some g → Bx wb g cs := by
  refine ⟨?_, fun g cs hx hne => ?_⟩
  · refine (own_below h.o8 ha).kept g7 ?_
    cases hA : A8 with
    | none => exact .inl rfl
    | some a => exact .inr fun e => h.d a.block e.symm (by rw [hA]; rfl)
  · have h1 := hx.below ha
    exact h1.keep (g7.block _ h1.lt fun e => hne e.symm)
/-- Where the loop stands. -/
def VI (fb : Nat) (w0 : World) (p : Nat) (V0 U0 : Nat → Prop) (i : Nat) (s7 s8 : Value) (wr : World) : Prop :=
  ∃ (C : Cr) (G : List (Int × Int)) (V U : Nat → Prop) (m : Mb) (A7 : Option Addr) (c7 : Nat) (A8 : Option Addr) (c8 : Nat), s7 = .slice A7 G.length c7 ∧ s8 = .slice A8 G.length c8 ∧ CTo fb w0 p V0 U0 C wr V U m ∧ C.Ok 1 ∧ Grants C G ∧ G.length ≤ i ∧ Two w0.heap.size wr V U A7 c7 A8 c8 G
theorem VI.below {fb p i j : Nat} {w0 W W' : World} {V0 U0 : Nat → Prop} {s7 s8 : Value} (h : VI fb w0 p V0 U0 i s7 s8 W) (hb : Below W.heap.size W W') (hij : i ≤ j) : VI fb w0 p V0 U0 j s7 s8 W' := by
  obtain ⟨C, G, V, U, m, A7, c7, A8, c8, e7, e8, ht, ho, hg, hl, h2⟩ := h
  exact ⟨C, G, V, U, m, A7, c7, A8, c8, e7, e8, ht.below hb, ho, hg, by omega, h2.below hb⟩
end Go.Proofs.YtmhaahcbmdhinaaGreatDoor

namespace Go.Proofs.YtmhaahcbmdhinaaGreatDoor
open Go.RowKit
set_option linter.unusedVariables false
set_option linter.unusedSimpArgs false
theorem en_iff {x y : Er} : en x = en y ↔ x.a = y.a ∧ x.b = y.b ∧ x.c = y.c ∧ x.d = y.d := by
  unfold en
  constructor
  · intro h; injection h with h1 h2 h3 h4; exact ⟨h1, h2, h3, h4⟩
  · rintro ⟨h1, h2, h3, h4⟩; rw [h1, h2, h3, h4]
theorem st_iff {s s' : St} : s = s' ↔ s.tm = s'.tm ∧ s.vt = s'.vt ∧ s.b = s'.b ∧ s.t = s'.t ∧ s.l = s'.l ∧ s.cf = s'.cf ∧ s.sn = s'.sn := by
  constructor
  · rintro rfl; exact ⟨rfl, rfl, rfl, rfl, rfl, rfl, rfl⟩
  · rintro ⟨h1, h2, h3, h4, h5, h6, h7⟩
    cases s; cases s'
    dsimp only at *
    rw [h1, h2, h3, h4, h5, h6, h7]
theorem Sv.fit_of {s s' : Sv} {W W' : World} {ok ok' : Nat → Prop} (h' : s'.At W' ok') (h : s.At W ok) (hf : s.Fit) (e : s'.st = s.st) : s'.Fit := by
  obtain ⟨e1, e2, e3, e4, e5, e6, e7⟩ := st_iff.1 e
  have k1 : s'.tm = s.tm := e1
  have k2 : s'.vt = s.vt := e2
  have k3 : s'.b = s.b := e3
  have k4 : s'.t = s.t := e4
  have k5 : s'.L.map en = s.L.map en := e5
  have k6 : s'.cf = s.cf := e6
  have k7 : s'.sn = s.sn := e7
  have l1 := h'.l.flen ecell_len (by omega)
  have l2 := h.l.flen ecell_len (by omega)
  have l3 := congrArg List.length k5
  rw [List.length_map, List.length_map] at l3
  have l4 := ii_len h'.cf
  have l5 := ii_len h.cf
  have l6 := h'.sn.blen
  have l7 := h.sn.blen
  have l8 := hf.z
  refine ⟨by rw [k1, k2, k3, k4]; exact hf.i, fun y hy => ?_, by omega, by rw [k6] at l4; omega, by rw [k7] at l6; omega⟩
  have hm : en y ∈ s.L.map en := by rw [← k5]; exact List.mem_map_of_mem hy
  obtain ⟨x, hx, hxy⟩ := List.mem_map.1 hm
  obtain ⟨m1, m2, m3, m4⟩ := en_iff.1 hxy
  have m5 := (h'.d y hy).1.blen
  have m6 := (h.d x hx).1.blen
  have m7 := hf.w x hx
  rw [m4] at m6
  refine ⟨?_, by omega⟩
  have m8 := m7.1
  unfold W64 at m8 ⊢
  rw [← m1, ← m2, ← m3]
  exact m8
end Go.Proofs.YtmhaahcbmdhinaaGreatDoor

namespace Go.Proofs.YtmhaahcbmdhinaaGreatDoor
open Go.RowKit
set_option maxRecDepth 100000
set_option linter.unusedVariables false
set_option linter.unusedSimpArgs false
attribute [local go_sem ↓] Go.wp_at_zero Go.wp_at_succ
def LogPostB (W : World) (b t : Int) (n : Nat) (L : List Er) (e : Ending) (w' : World) : Prop :=
  ∃ A c L', e = .returned (.agg #[.int .i64 b, .int .i64 t, .slice A n c]) ∧ Rd w' (W.heap.size ≤ ·) 4 A n (flat ecell L') ∧ DatB w' W.heap.size L' ∧ Same L L' ∧ n ≤ c ∧ c ≤ maxLen ∧ Below W.heap.size W w'
set_option maxHeartbeats 3200000 in
theorem giveLogB_any (b t : Int) (A : Option Addr) (n c : Nat) (L : List Er) (w : World) (hr : Rd w T 4 A n (flat ecell L)) (hd : Dat w L) (hs : ∀ x ∈ L, x.n ≤ 1000000) (hn : n ≤ 1000000) :
    Calls Tryz.prog 39 #[.agg #[.int .i64 b, .int .i64 t, .slice A n c]] w (LogPostB w b t n L) := by
  have hr' := hr.lt (by omega)
  obtain ⟨W0, hW0⟩ : ∃ W0, W0 = (w.alloc (.cells #[.int .i64 b, .int .i64 t, .slice A n c] 24)).alloc (.cells #[.int .i64 0, .int .i64 0, .slice none 0 0] 38) := ⟨_, rfl⟩
  have b0 : Bx W0 w.heap.size #[.int .i64 b, .int .i64 t, .slice A n c] := by subst hW0; exact (Bx.new _ _ _ rfl).alloc _
  have F0 : Fr W0 (w.heap.size + 1) 3 W0 := by subst hW0; exact Fr.new (by simp) rfl
  have r0 : Rd W0 (· < w.heap.size) 4 A n (flat ecell L) := by subst hW0; exact ((hr'.mono fun b hb => hb.2).alloc _).alloc _
  have d0 : ∀ x ∈ L, Rd W0 (· < w.heap.size) 1 x.A x.n (bs x.d) ∧ x.n ≤ x.m ∧ x.m ≤ maxLen := by
    subst hW0
    exact fun x hx => ⟨(((((hd x hx).1.lt (by omega)).mono fun b hb => hb.2).alloc _).alloc _), (hd x hx).2⟩
  have hbe : Below w.heap.size w W0 := by subst hW0; exact ((Below.refl _ _).alloc (Nat.le_refl _) _).alloc (by simp) _
  have hz : W0.heap.size = w.heap.size + 2 := by subst hW0; simp
  have u0 : W0.cell? ⟨w.heap.size, 0, none⟩ = some (.int .i64 b) := b0.c 0
  have u1 : W0.cell? ⟨w.heap.size, 1, none⟩ = some (.int .i64 t) := b0.c 1
  have u2 : W0.cell? ⟨w.heap.size, 2, none⟩ = some (.slice A n c) := b0.c 2
  have sof : ∀ W, Fr W0 (w.heap.size + 1) 3 W → (Fr W0 (w.heap.size + 1) 3 W ∧ W.cell? ⟨w.heap.size, 0, none⟩ = some (.int .i64 b) ∧ W.cell? ⟨w.heap.size, 1, none⟩ = some (.int .i64 t) ∧ W.cell? ⟨w.heap.size, 2, none⟩ = some (.slice A n c) ∧ W.cell? ⟨w.heap.size + 1, 0, none⟩ = some (peek W (w.heap.size + 1) 0) ∧ W.cell? ⟨w.heap.size + 1, 1, none⟩ = some (peek W (w.heap.size + 1) 1) ∧ W.cell? ⟨w.heap.size + 1, 2, none⟩ = some (peek W (w.heap.size + 1) 2) ∧ W.frozen? ⟨w.heap.size + 1, 0, none⟩ = false ∧ W.frozen? ⟨w.heap.size + 1, 1, none⟩ = false ∧ W.frozen? ⟨w.heap.size + 1, 2, none⟩ = false) :=
    fun W F2 => ⟨F2, F2.cell (by omega) u0, F2.cell (by omega) u1, F2.cell (by omega) u2, F2.pk (by omega), F2.pk (by omega), F2.pk (by omega), F2.fz _, F2.fz _, F2.fz _⟩
  have hgv := fun W (h : Fr W0 (w.heap.size + 1) 3 W) => gives_any A n c L W (h.rd r0 (by omega)) (fun x hx => ⟨(h.rd (d0 x hx).1 (by omega)).any, (d0 x hx).2⟩) hs hn
  have Hgv := Lib.hid hgv
  have HW := Lib.hid hW0
  have s0 := sof _ F0
  have Hz := Lib.hid hz
  clear hW0 b0 u0 u1 u2 hr hr' hz r0 d0 hgv hd hs
  go_enter Tryz.func39, Tryz.ntmps39
  go_upto_region 1 with (fail)
  rw [← HW.out]
  go_split_ands
  go_region_held3 (fun W => Fr W0 (w.heap.size + 1) 3 W ∧ W.cell? ⟨w.heap.size, 0, none⟩ = some (.int .i64 b) ∧ W.cell? ⟨w.heap.size, 1, none⟩ = some (.int .i64 t) ∧ W.cell? ⟨w.heap.size, 2, none⟩ = some (.slice A n c) ∧ W.cell? ⟨w.heap.size + 1, 0, none⟩ = some (peek W (w.heap.size + 1) 0) ∧ W.cell? ⟨w.heap.size + 1, 1, none⟩ = some (peek W (w.heap.size + 1) 1) ∧ W.cell? ⟨w.heap.size + 1, 2, none⟩ = some (peek W (w.heap.size + 1) 2) ∧ W.frozen? ⟨w.heap.size + 1, 0, none⟩ = false ∧ W.frozen? ⟨w.heap.size + 1, 1, none⟩ = false ∧ W.frozen? ⟨w.heap.size + 1, 2, none⟩ = false) ((refine sof _ ?_; first | exact F0.drew | (go_split_ands; exact Fr.below (by assumption) (by assumption)) | (go_split_ands; exact Fr.set (Fr.set (Fr.set (by assumption) _ _) _ _) _ _))) (first
    | (go_at_call 72; refine (Hgv.out _ (by go_split_ands; assumption)).mono ?_; rintro e w4 ⟨A4, c4, L4, rfl, ro4, sm4, hb4⟩; have F4 : Fr W0 (w.heap.size + 1) 3 w4 := Fr.below (by go_split_ands; assumption) hb4; have z4 : W0.heap.size ≤ W0.drew.heap.size := Nat.le_refl _))
  all_goals
    have q0 : w4.cell? ⟨w.heap.size + 1, 0, none⟩ = some (peek w4 (w.heap.size + 1) 0) := F4.pk (by omega)
    have q1 : w4.cell? ⟨w.heap.size + 1, 1, none⟩ = some (peek w4 (w.heap.size + 1) 1) := F4.pk (by omega)
    have q2 : w4.cell? ⟨w.heap.size + 1, 2, none⟩ = some (peek w4 (w.heap.size + 1) 2) := F4.pk (by omega)
    have FF := Fr.set (Fr.set (Fr.set F4 0 (.int .i64 b)) 1 (.int .i64 t)) 2 (.slice A4 n c4)
    have hz := Hz.out
    go_wp2_with fail
    refine bodyPost_ret (by simp [results, Tryz.results39, go_sem, q0, q1, q2]; rfl) rfl ?_
    have hm := own_cap ro4.ow
    have hne : ¬ W0.drew.heap.size ≤ w.heap.size + 1 := by show ¬ W0.heap.size ≤ _; omega
    refine ⟨A4, c4, L4, rfl, ?_, fun y hy => ⟨?_, (ro4.dt y hy).2⟩, sm4, hm.1, hm.2, hbe.trans (FF.to_below (B := w.heap.size) (by omega))⟩
    · exact ((((Rd.of_own ro4.ow).setCell (p := ⟨w.heap.size + 1, 0, none⟩) hne _).setCell (p := ⟨w.heap.size + 1, 1, none⟩) hne _).setCell (p := ⟨w.heap.size + 1, 2, none⟩) hne _).mono fun q hq => (by have h9 : W0.heap.size ≤ q := hq; omega)
    · exact ((((ro4.dat_from y hy).1.setCell (p := ⟨w.heap.size + 1, 0, none⟩) hne _).setCell (p := ⟨w.heap.size + 1, 1, none⟩) hne _).setCell (p := ⟨w.heap.size + 1, 2, none⟩) hne _).mono fun q hq => (by have h9 : W0.heap.size ≤ q := hq; omega)
end Go.Proofs.YtmhaahcbmdhinaaGreatDoor

namespace Go.Proofs.YtmhaahcbmdhinaaGreatDoor
open Go.RowKit
set_option maxRecDepth 100000
set_option linter.unusedVariables false
set_option linter.unusedSimpArgs false
def z7 : Array Value := #[.int .i64 0, .int .i64 0, .int .i64 0, .int .i64 0, .slice none 0 0, .slice none 0 0, .slice none 0 0]
def GiveSP (W : World) (s : St) (e : Ending) (w' : World) : Prop := ∃ s' : Sv, e = .returned s'.val ∧ s'.At w' (W.heap.size ≤ ·) ∧ s'.st = s ∧ s'.Fit ∧ Below W.heap.size W w'
set_option maxHeartbeats 3200000 in
theorem giveS_any (s : Sv) (w : World) {ok : Nat → Prop} (h : s.At w ok) (hf : s.Fit) :
    Calls Tryz.prog 13 #[s.val] w (GiveSP w s.st) := by
  obtain ⟨W0, hW0⟩ : ∃ W0, W0 = (w.alloc (.cells s.cells 28)).alloc (.cells z7 41) := ⟨_, rfl⟩
  have b0 : Bx W0 w.heap.size s.cells := by subst hW0; exact (Bx.new _ _ _ rfl).alloc _
  have b9 : Bx W0 (w.heap.size + 1) z7 := by subst hW0; exact Bx.new _ _ _ (by simp)
  have hbe : Below w.heap.size w W0 := by subst hW0; exact ((Below.refl _ _).alloc (Nat.le_refl _) _).alloc (by simp) _
  have hz0 : W0.heap.size = w.heap.size + 2 := by subst hW0; simp
  have a0 := h.below hbe
  have hgl := giveLogB_any s.b s.t s.A s.n s.c s.L W0.drew a0.l.any.drew (fun y hy => ⟨(a0.d y hy).1.any.drew, (a0.d y hy).2⟩) (fun y hy => (hf.w y hy).2) hf.z.1
  have F : ∀ W, Below W0.heap.size W0 W → W.cell? ⟨w.heap.size, 0, none⟩ = some (.int .i64 s.tm) ∧ W.cell? ⟨w.heap.size, 1, none⟩ = some (.int .i64 s.vt) ∧ W.cell? ⟨w.heap.size, 2, none⟩ = some (.int .i64 s.b) ∧ W.cell? ⟨w.heap.size, 3, none⟩ = some (.int .i64 s.t) ∧ W.cell? ⟨w.heap.size, 4, none⟩ = some (.slice s.A s.n s.c) ∧ W.cell? ⟨w.heap.size, 5, none⟩ = some (.slice s.C s.nc s.cc) ∧ W.cell? ⟨w.heap.size, 6, none⟩ = some (.slice s.S s.ns s.cs) := fun W hb => Sv.c7 (b0.below hb)
  have hz := hf.z
  have FF := Lib.hid F
  have HW := Lib.hid hW0
  have B := Lib.hid (And.intro b9 (And.intro hbe (And.intro hz0 a0)))
  have Hgl := Lib.hid hgl
  have Hh := Lib.hid h
  clear F hW0 b0 b9 hbe hz0 a0 hgl h
  unfold Sv.val stA
  go_enter Tryz.func13, Tryz.ntmps13
  go_upto_region 1 with (fail)
  have HW' := HW.out
  unfold Sv.cells z7 at HW'
  rw [← HW']
  clear HW'
  go_upto_region 3 with (fail)
  refine wp_region_S 16 (fun W => Below W0.heap.size W0 W) (.take 0 (.take 1 (.take 2 (.take 3 (.take 4 (.take 5 (.take 7 (.take 8 (.take 9 (.take 11 (.take 12 (.take 13 (.one 6 (.one 10 (.one 14 (.take 15 (.one 16 (.nil)))))))))))))))))) (by kernel_rfl) (Below.refl _ _).drew (fun _ _ _ _ h => h) (fun hS => ?_)
  repeat (first
    | (refine wpS_take (v := ?_) rfl rfl (by rfl) ?_ ?_; rotate_left; (intro W hW; have hf := FF.out W hW; go_split_ands; go_simp; try with_reducible rfl); try simp only [Act.put, List.setIfInBounds_toArray, List.set_cons_zero, List.set_cons_succ])
    | (refine wpS_skip rfl rfl (by rfl) ?_; try simp only [Act.put, List.setIfInBounds_toArray, List.set_cons_zero, List.set_cons_succ]))
  refine wpS_one rfl (by rfl) (fun K hK => ?_)
  go_simp
  go_at_call 39
  refine (Hgl.out).mono ?_
  rintro e w1 ⟨A1, c1, L1, rfl, r1, d1, e1, k1, k2, hb1⟩
  have hb1' : Below W0.heap.size W0 w1 := (Below.refl _ _).drew.trans hb1
  have R1 := Lib.hid (And.intro r1 (And.intro d1 (And.intro e1 (And.intro k1 k2))))
  have hS1 := hb1'
  clear r1 d1 e1 hb1 hb1'
  refine hK (fun W => Below W0.heap.size W0 W) _ _ (fun _ h => h) hS1 ?_
  clear hK K
  try simp only [Act.put, List.setIfInBounds_toArray, List.set_cons_zero, List.set_cons_succ]
  refine wpS_one rfl (by rfl) (fun K hK => ?_)
  refine wp_append_any w1 Tryz.underlying25 int_elem rfl (by omega) rfl rfl (World.ownsRow_nil w1 w1.heap.size _ 1) rfl (B.out.2.2.2.cf.any.below hS1) (ii_one _) (by omega) (Nat.le_refl _) (Nat.zero_add _) (List.nil_append _) ?_
  intro A2 c2 w2 o2 g2 hat2
  clear hat2
  have hb2 : Below w1.heap.size w1 w2 := (Below.refl _ _).grown g2 (Nat.le_refl _) (fun q hq => by cases hq)
  have hS2 := hS1.trans (hb2.mono hS1.size)
  have O2 := Lib.hid (And.intro o2 hb2)
  refine hK (fun W => Below W0.heap.size W0 W) _ _ (fun _ h => h) hS2 ?_
  clear hK K o2 g2 hb2
  try simp only [Act.put, List.setIfInBounds_toArray, List.set_cons_zero, List.set_cons_succ]
  refine wpS_one rfl (by rfl) (fun K hK => ?_)
  refine wp_append_any w2 Tryz.underlying26 u8_elem rfl (by omega) rfl rfl (World.ownsRow_nil w2 w2.heap.size _ 1) rfl (B.out.2.2.2.sn.any.below hS2) (bs_one _) (by omega) (Nat.le_refl _) (Nat.zero_add _) (List.nil_append _) ?_
  intro A3 c3 w3 o3 g3 hat3
  clear hat3
  have hb3 : Below w2.heap.size w2 w3 := (Below.refl _ _).grown g3 (Nat.le_refl _) (fun q hq => by cases hq)
  have hS3 := hS2.trans (hb3.mono hS2.size)
  have O3 := Lib.hid (And.intro o3 hb3)
  refine hK (fun W => Below W0.heap.size W0 W) _ _ (fun _ h => h) hS3 ?_
  clear hK K o3 g3 hb3
  try simp only [Act.put, List.setIfInBounds_toArray, List.set_cons_zero, List.set_cons_succ]
  repeat (first
    | (refine wpS_take (v := ?_) rfl rfl (by rfl) ?_ ?_; rotate_left; (intro W hW; have hf := FF.out W hW; go_split_ands; go_simp; try with_reducible rfl); try simp only [Act.put, List.setIfInBounds_toArray, List.set_cons_zero, List.set_cons_succ])
    | (refine wpS_skip rfl rfl (by rfl) ?_; try simp only [Act.put, List.setIfInBounds_toArray, List.set_cons_zero, List.set_cons_succ]))
  have y9 := B.out.1.below hS3
  obtain ⟨q0, q1, q2, q3, q4, q5, q6⟩ := y9.c7
  have p0 := y9.f 0
  have p1 := y9.f 1
  have p2 := y9.f 2
  have p3 := y9.f 3
  have p4 := y9.f 4
  have p5 := y9.f 5
  have p6 := y9.f 6
  have Y9 := Lib.hid (And.intro y9 (And.intro hS1 (And.intro hS2 hS3)))
  clear y9
  refine wpS_last rfl (by rfl) (fun K hK => ?_)
  go_simp
  refine hK _ _ ?_
  clear hK K hS hS1 hS2 hS3
  try simp only [Act.put, List.setIfInBounds_toArray, List.set_cons_zero, List.set_cons_succ]
  refine wpS_nil ?_
  clear q0 q1 q2 q3 q4 q5 q6 p0 p1 p2 p3 p4 p5 p6
  obtain ⟨W4, hW4⟩ : ∃ W4, W4 = (((((((w3.setCell ⟨w.heap.size + 1, 0, none⟩ (.int .i64 s.tm)).setCell ⟨w.heap.size + 1, 1, none⟩ (.int .i64 s.vt)).setCell ⟨w.heap.size + 1, 2, none⟩ (.int .i64 s.b)).setCell ⟨w.heap.size + 1, 3, none⟩ (.int .i64 s.t)).setCell ⟨w.heap.size + 1, 4, none⟩ (.slice A1 s.n c1)).setCell ⟨w.heap.size + 1, 5, none⟩ (.slice A2 s.nc c2)).setCell ⟨w.heap.size + 1, 6, none⟩ (.slice A3 s.ns c3)) := ⟨_, rfl⟩
  have x4 : Bx W4 (w.heap.size + 1) (Sv.cells ⟨s.tm, s.vt, s.b, s.t, A1, s.n, c1, L1, A2, s.nc, c2, s.cf, A3, s.ns, c3, s.sn⟩) := by
    rw [hW4]
    exact Bx.set7 Y9.out.1 _ _ _ _ _ _ _
  have hk : ∀ b, b ≠ w.heap.size + 1 → W4.heap[b]? = w3.heap[b]? := fun b hb => by
    rw [hW4]
    exact keep7 hb _ _ _ _ _ _ _
  have b4 : Below w.heap.size w W4 := by
    have h1 := B.out.2.1.trans (Y9.out.2.2.2.mono B.out.2.1.size)
    have h2 : Below w.heap.size w3 W4 := by
      rw [hW4]
      exact (below7 (Below.refl (w.heap.size + 1) w3) _ _ _ _ _ _ _).mono (by omega)
    exact h1.trans h2
  have z1 := Y9.out.2.1.size
  have z2 := Y9.out.2.2.1.size
  have hz0 := B.out.2.2.1
  have zd : W0.drew.heap.size = W0.heap.size := rfl
  have a3 : Sv.At ⟨s.tm, s.vt, s.b, s.t, A1, s.n, c1, L1, A2, s.nc, c2, s.cf, A3, s.ns, c3, s.sn⟩ w3 (W0.heap.size ≤ ·) :=
    ⟨(R1.out.1.below O2.out.2).below O3.out.2, fun y hy => ⟨((R1.out.2.1 y hy).1.below O2.out.2).below O3.out.2, (R1.out.2.1 y hy).2⟩, ((Rd.of_own O2.out.1).mono fun b hb => (by omega : W0.heap.size ≤ b)).below O3.out.2, (Rd.of_own O3.out.1).mono fun b hb => (by omega : W0.heap.size ≤ b), R1.out.2.2.2, own_cp O2.out.1, own_cp O3.out.1⟩
  have a4 := (a3.keep (W' := W4) fun b hb _ => hk b (by have h9 : W0.heap.size ≤ b := hb; omega)).mono (ok' := (w.heap.size ≤ ·)) fun b hb => (by have h9 : W0.heap.size ≤ b := hb; omega)
  have st4 : Sv.st ⟨s.tm, s.vt, s.b, s.t, A1, s.n, c1, L1, A2, s.nc, c2, s.cf, A3, s.ns, c3, s.sn⟩ = s.st := by
    have h9 : L1.map en = s.L.map en := R1.out.2.2.1
    unfold Sv.st
    dsimp only
    rw [h9]
  have f4 := Sv.fit_of a4 Hh.out hf st4
  rw [← hW4]
  have K4 := Lib.hid (And.intro a4 (And.intro st4 (And.intro f4 b4)))
  clear hW4 hk b4 a3 a4 st4 f4
  go_wp2_with fail
  obtain ⟨ty4, hg4⟩ := x4.hp
  refine bodyPost_ret (results_cell_row rfl _ _ (w.heap.size + 1) _ _ (0, 0) _ rfl hg4 Tryz.underlying41 rfl (by kernel_rfl)) rfl ?_
  exact ⟨_, rfl, K4.out.1, K4.out.2.1, K4.out.2.2.1, K4.out.2.2.2⟩
end Go.Proofs.YtmhaahcbmdhinaaGreatDoor

namespace Go.Proofs.YtmhaahcbmdhinaaGreatDoor
open Go.RowKit
set_option maxRecDepth 100000
set_option linter.unusedVariables false
set_option linter.unusedSimpArgs false
def GiveMP (W : World) (x : Mr) (e : Ending) (w' : World) : Prop := ∃ x' : Mr, e = .returned x'.val ∧ x'.At w' (W.heap.size ≤ ·) ∧ x'.ms = x.ms ∧ x'.ne = x.ne ∧ x'.nd = x.nd ∧ Below W.heap.size W w'
set_option maxHeartbeats 6400000 in
theorem giveM_any (x : Mr) (w : World) {ok : Nat → Prop} (h : x.At w ok) (hf : x.Fit) :
    Calls Tryz.prog 28 #[x.val] w (GiveMP w x) := by
  obtain ⟨W0, hW0⟩ : ∃ W0, W0 = (w.alloc (.cells x.cells 72)).alloc (.cells #[.int .i64 0, .int .i64 0, .int .i64 0, .int .i64 0, .int .i64 0, .int .i64 0, .int .i64 0, .int .i64 0, .bool false, .int .i64 0, .slice none 0 0, .slice none 0 0] 78) := ⟨_, rfl⟩
  have b0 : Bx W0 w.heap.size x.cells := by subst hW0; exact (Bx.new _ _ _ rfl).alloc _
  have b9 : Bx W0 (w.heap.size + 1) #[.int .i64 0, .int .i64 0, .int .i64 0, .int .i64 0, .int .i64 0, .int .i64 0, .int .i64 0, .int .i64 0, .bool false, .int .i64 0, .slice none 0 0, .slice none 0 0] := by subst hW0; exact Bx.new _ _ _ (by simp)
  have hbe : Below w.heap.size w W0 := by subst hW0; exact ((Below.refl _ _).alloc (Nat.le_refl _) _).alloc (by simp) _
  have hz0 : W0.heap.size = w.heap.size + 2 := by subst hW0; simp
  have a0 := h.below hbe
  have hgl := fun W (hb : Below W0.heap.size W0 W) => gives_any x.E x.ne x.ce x.L W (a0.below hb).e (a0.below hb).dat (fun y hy => (hf.w y hy).2) hf.z.2
  have F : ∀ W, Below W0.heap.size W0 W → _ := fun W hb => Mr.c12 (b0.below hb)
  have hz := hf.z
  have FF := Lib.hid F
  have HW := Lib.hid hW0
  have B := Lib.hid (And.intro b9 (And.intro hbe (And.intro hz0 a0)))
  have Hgl := Lib.hid hgl
  clear F hW0 b0 b9 hbe hz0 a0 hgl h hf
  unfold Mr.val
  go_enter Tryz.func28, Tryz.ntmps28
  go_upto_region 1 with (fail)
  have HW' := HW.out
  unfold Mr.cells at HW'
  rw [← HW']
  clear HW'
  go_upto_region 2 with (fail)
  refine wp_region_S 28 (fun W => Below W0.heap.size W0 W) (.take 0 (.take 1 (.take 2 (.take 3 (.take 4 (.take 5 (.take 6 (.take 7 (.take 8 (.take 9 (.take 10 (.take 11 (.take 12 (.take 13 (.take 14 (.take 15 (.take 16 (.take 17 (.take 18 (.take 19 (.take 20 (.take 21 (.take 22 (.take 24 (.take 25 (.one 23 (.one 26 (.take 27 (.one 28 (.nil)))))))))))))))))))))))))))))) (by kernel_rfl) (Below.refl _ _).drew (fun _ _ _ _ h => h) (fun hS => ?_)
  repeat (first
    | (refine wpS_take (v := ?_) rfl rfl (by rfl) ?_ ?_; rotate_left; (intro W hW; have hf := FF.out W hW; go_split_ands; go_simp; try with_reducible rfl); try simp only [Act.put, List.setIfInBounds_toArray, List.set_cons_zero, List.set_cons_succ])
    | (refine wpS_skip rfl rfl (by rfl) ?_; try simp only [Act.put, List.setIfInBounds_toArray, List.set_cons_zero, List.set_cons_succ]))
  refine wpS_one rfl (by rfl) (fun K hK => ?_)
  refine wp_append_any W0.drew Tryz.underlying26 u8_elem rfl (by omega) rfl rfl (World.ownsRow_nil W0.drew W0.drew.heap.size _ 1) rfl (B.out.2.2.2.d.any.below (Below.refl _ _).drew) (bs_one _) (by omega) (Nat.le_refl _) (Nat.zero_add _) (List.nil_append _) ?_
  intro A1 c1 w1 o1 g1 hat1
  clear hat1
  have hb1 : Below W0.heap.size W0 w1 := (Below.refl _ _).drew.trans ((Below.refl _ _).grown g1 (Nat.le_refl _) (fun q hq => by cases hq))
  have O1 := Lib.hid (And.intro o1 hb1)
  refine hK (fun W => Below W0.heap.size W0 W) _ _ (fun _ h => h) hb1 ?_
  clear hK K o1 g1
  try simp only [Act.put, List.setIfInBounds_toArray, List.set_cons_zero, List.set_cons_succ]
  refine wpS_one rfl (by rfl) (fun K hK => ?_)
  go_simp
  go_at_call 72
  refine (Hgl.out w1 hb1).mono ?_
  rintro e w2 ⟨A2, c2, L2, rfl, ro2, sm2, hb2⟩
  have hS2 : Below W0.heap.size W0 w2 := hb1.trans (hb2.mono hb1.size)
  have R2 := Lib.hid (And.intro ro2 (And.intro sm2 (And.intro hb2 hS2)))
  clear ro2 sm2 hb2
  refine hK (fun W => Below W0.heap.size W0 W) _ _ (fun _ h => h) hS2 ?_
  clear hK K
  try simp only [Act.put, List.setIfInBounds_toArray, List.set_cons_zero, List.set_cons_succ]
  repeat (first
    | (refine wpS_take (v := ?_) rfl rfl (by rfl) ?_ ?_; rotate_left; (intro W hW; have hf := FF.out W hW; go_split_ands; go_simp; try with_reducible rfl); try simp only [Act.put, List.setIfInBounds_toArray, List.set_cons_zero, List.set_cons_succ])
    | (refine wpS_skip rfl rfl (by rfl) ?_; try simp only [Act.put, List.setIfInBounds_toArray, List.set_cons_zero, List.set_cons_succ]))
  have y9 := B.out.1.below hS2
  obtain ⟨q0, q1, q2, q3, q4, q5, q6, q7, q8, q9, q10, q11⟩ := Bx.c12 y9
  obtain ⟨p0, p1, p2, p3, p4, p5, p6, p7, p8, p9, p10, p11⟩ := Bx.f12 y9
  have Y9 := Lib.hid (And.intro y9 hS2)
  clear y9
  refine wpS_last rfl (by rfl) (fun K hK => ?_)
  go_simp
  refine hK _ _ ?_
  clear hK K hS hb1 hS2
  try simp only [Act.put, List.setIfInBounds_toArray, List.set_cons_zero, List.set_cons_succ]
  refine wpS_nil ?_
  clear q0 q1 q2 q3 q4 q5 q6 q7 q8 q9 q10 q11 p0 p1 p2 p3 p4 p5 p6 p7 p8 p9 p10 p11
  obtain ⟨x', hx'⟩ : ∃ x' : Mr, x' = ⟨x.kind, x.fr, x.dst, x.term, x.ix, x.lt, x.cm, x.rd, x.ok, x.off, A1, x.nd, c1, x.data, A2, x.ne, c2, L2⟩ := ⟨_, rfl⟩
  obtain ⟨W4, hW4⟩ : ∃ W4, W4 = ((((((((((((w2.setCell ⟨w.heap.size + 1, 0, none⟩ (.int .i64 x.kind)).setCell ⟨w.heap.size + 1, 1, none⟩ (.int .i64 x.fr)).setCell ⟨w.heap.size + 1, 2, none⟩ (.int .i64 x.dst)).setCell ⟨w.heap.size + 1, 3, none⟩ (.int .i64 x.term)).setCell ⟨w.heap.size + 1, 4, none⟩ (.int .i64 x.ix)).setCell ⟨w.heap.size + 1, 5, none⟩ (.int .i64 x.lt)).setCell ⟨w.heap.size + 1, 6, none⟩ (.int .i64 x.cm)).setCell ⟨w.heap.size + 1, 7, none⟩ (.int .i64 x.rd)).setCell ⟨w.heap.size + 1, 8, none⟩ (.bool x.ok)).setCell ⟨w.heap.size + 1, 9, none⟩ (.int .i64 x.off)).setCell ⟨w.heap.size + 1, 10, none⟩ (.slice A1 x.nd c1)).setCell ⟨w.heap.size + 1, 11, none⟩ (.slice A2 x.ne c2)) := ⟨_, rfl⟩
  have x4 : Bx W4 (w.heap.size + 1) x'.cells := by
    rw [hW4, hx']
    exact Bx.set12 Y9.out.1 _ _ _ _ _ _ _ _ _ _ _ _
  have hk : ∀ b, b ≠ w.heap.size + 1 → W4.heap[b]? = w2.heap[b]? := fun b hb => by
    rw [hW4]
    exact keep12 hb _ _ _ _ _ _ _ _ _ _ _ _
  have b4 : Below w.heap.size w W4 := by
    have h1 := B.out.2.1.trans (Y9.out.2.mono B.out.2.1.size)
    have h2 : Below w.heap.size w2 W4 := by
      rw [hW4]
      exact bset12 (Below.refl w.heap.size w2) (by omega) _ _ _ _ _ _ _ _ _ _ _ _
    exact h1.trans h2
  have zd : W0.drew.heap.size = W0.heap.size := rfl
  have hz0 := B.out.2.2.1
  have z1 := O1.out.2.size
  have o1 := (Rd.of_own O1.out.1).below R2.out.2.2.1
  have m1 := own_cp O1.out.1
  have m2 := own_cap R2.out.1.ow
  have r1 : Rd w2 (w.heap.size + 2 ≤ ·) 1 A1 x.nd (bs x.data) := o1.mono fun b hb => (by have h9 : W0.drew.heap.size ≤ b := hb; omega)
  have r2 : Rd w2 (w.heap.size + 2 ≤ ·) 4 A2 x.ne (flat ecell L2) := (Rd.of_own R2.out.1.ow).mono fun b hb => (by have h9 : w1.heap.size ≤ b := hb; omega)
  have r3 : ∀ y ∈ L2, Rd w2 (w.heap.size + 2 ≤ ·) 1 y.A y.n (bs y.d) ∧ y.n ≤ y.m ∧ y.m ≤ maxLen := fun y hy => ⟨(R2.out.1.dat_from y hy).1.mono fun b hb => (by have h9 : w1.heap.size ≤ b := hb; omega), (R2.out.1.dt y hy).2⟩
  have a3 : x'.At w2 (w.heap.size + 2 ≤ ·) := by
    rw [hx']
    exact ⟨r1, m1, r2, r3, m2⟩
  have a4 := (a3.keep (W' := W4) fun b hb _ => hk b (by have h9 : w.heap.size + 2 ≤ b := hb; omega)).mono (ok' := (w.heap.size ≤ ·)) fun b hb => (by have h9 : w.heap.size + 2 ≤ b := hb; omega)
  have s4 : x'.ms = x.ms := by
    have h9 : L2.map en = x.L.map en := R2.out.2.1
    rw [hx']
    unfold Mr.ms
    dsimp only
    rw [h9]
  have n4 : x'.ne = x.ne ∧ x'.nd = x.nd := by rw [hx']; exact ⟨rfl, rfl⟩
  rw [← hW4]
  have K4 := Lib.hid (And.intro a4 (And.intro s4 (And.intro n4.1 (And.intro n4.2 b4))))
  clear hW4 hk b4 a3 a4 s4 n4 r1 r2 r3 o1 m1 m2 hx'
  go_wp2_with fail
  obtain ⟨ty4, hg4⟩ := x4.hp
  refine bodyPost_ret (results_cell_row rfl _ _ (w.heap.size + 1) _ _ (0, 0) _ rfl hg4 Tryz.underlying78 rfl (by kernel_rfl)) rfl ?_
  exact ⟨x', rfl, K4.out.1, K4.out.2.1, K4.out.2.2.1, K4.out.2.2.2.1, K4.out.2.2.2.2⟩
def longM (x : Mr) : Bool := decide (10000 < x.nd) || longB x.L
set_option maxHeartbeats 1600000 in
theorem longM_any (x : Mr) (w : World) {ok : Nat → Prop} (h : x.At w ok) (hs : ∀ y ∈ x.L, y.n ≤ 140737488351232) :
    Calls Tryz.prog 24 #[x.val] w (BoolPost w (longM x)) := by
  obtain ⟨W0, hW0⟩ : ∃ W0, W0 = w.alloc (.cells x.cells 72) := ⟨_, rfl⟩
  have b0 : Bx W0 w.heap.size x.cells := by subst hW0; exact Bx.new _ _ _ rfl
  have hbe : Below w.heap.size w W0 := by subst hW0; exact (Below.refl _ _).alloc (Nat.le_refl _) _
  have k2 := h.ek
  unfold maxLen at k2
  have hlg := longs_any x.E x.ne x.ce x.L W0 (h.below hbe).e hs (by omega)
  unfold longM
  obtain ⟨q, hq⟩ : ∃ q, longB x.L = q := ⟨_, rfl⟩
  rw [hq] at hlg ⊢
  obtain ⟨c0, c1, c2, c3, c4, c5, c6, c7, c8, c9, c10, c11⟩ := Mr.c12 b0
  have HW := Lib.hid hW0
  have B := Lib.hid hbe
  have Hlg := Lib.hid hlg
  clear hW0 b0 hbe k2 hlg hq h hs
  unfold Mr.val
  go_enter Tryz.func24, Tryz.ntmps24
  go_upto_region 1 with (fail)
  have HW' := HW.out
  unfold Mr.cells at HW'
  rw [← HW']
  clear HW'
  by_cases hb : 10000 < x.nd
  · have hI : decide ((10000 : Int) < (x.nd : Int)) = true := decide_eq_true (by omega)
    have Q := Lib.hid (show (decide (10000 < x.nd) || q) = true by rw [decide_eq_true hb]; rfl)
    go_wp2_with fail
    go_ret
    exact ⟨ret_bool Q.out.symm, B.out⟩
  · have hI : decide ((10000 : Int) < (x.nd : Int)) = false := decide_eq_false (by omega)
    have Q := Lib.hid (show (decide (10000 < x.nd) || q) = q by rw [decide_eq_false hb]; rfl)
    go_wp2_with fail
    refine Hlg.out.mono ?_
    rintro e w1 ⟨rfl, hb1⟩
    have K := Lib.hid (B.out.trans (hb1.mono B.out.size))
    clear hb1
    go_wp2_with fail
    go_ret
    exact ⟨ret_bool Q.out.symm, K.out⟩
end Go.Proofs.YtmhaahcbmdhinaaGreatDoor

