/- Walk: (*raft.Core).Propose. (Printed by mkc18.py.)
   Wide structs, loaded and stored whole: their cells stay one word.
   Walks: (*raft.Core).View, Stored.
   Walks: msg.within: whether numbers are from a least one to a most one.
   Walks: msg.odd. -/
import Derived.Test.YtmhaahcbmdhinaaGreatDoorKW23
import Derived.Test.YtmhaahcbmdhinaaGreatDoorKW0
import Derived.Laws.Rows
import Derived.Laws.Tables
import Derived.Test.YtmhaahcbmdhinaaGreatDoorKW15
import Derived.Test.YtmhaahcbmdhinaaGreatDoorKW6
namespace Go.Proofs.YtmhaahcbmdhinaaGreatDoor
open Go.RowKit
set_option maxRecDepth 100000
set_option linter.unusedVariables false
set_option linter.unusedSimpArgs false
def ProPost (fb : Nat) (W : World) (p : Nat) (V U : Nat → Prop) (r : Cr × Int × List Ms × Int) (e : Ending) (w' : World) : Prop :=
  ∃ A n c, e = .returned (.tuple #[.int .i64 r.2.1, .slice A n c, errE r.2.2.2]) ∧ OutPost fb W p V U (r.1, r.2.2.1) (.returned (.slice A n c)) w'
theorem proNo {fb p : Nat} {W w' : World} {V U : Nat → Prop} {C : Cr} {m : Mb} {k : Int} {e : Ending} (h : CX fb W p V U C m) (hb : Below W.heap.size W w') (he : e = .returned (.tuple #[.int .i64 0, .slice none 0 0, errE k])) : ProPost fb W p V U (C, 0, [], k) e w' :=
  ⟨none, 0, 0, he, outNil ((CTo.refl h).below hb)⟩
theorem change_ne {C : Cr} {d : List UInt8} (h : C.change d = 0) : (confD d).isNone = false := by
  unfold Cr.change at h
  split at h
  · cases h
  · cases hd : confD d with
    | none => rw [hd] at h; cases h
    | some l => rfl
def proG (C : Cr) (kd : Int) (d : List UInt8) : Cr × Int × List Ms × Int :=
  if (addL C.s.b C.s.t C.s.l C.s.tm kd d).1 = 0 then ((C.withLog (addL C.s.b C.s.t C.s.l C.s.tm kd d).2).tell.1, (C.withLog (addL C.s.b C.s.t C.s.l C.s.tm kd d).2).last, (C.withLog (addL C.s.b C.s.t C.s.l C.s.tm kd d).2).tell.2, 0) else (C, 0, [], (addL C.s.b C.s.t C.s.l C.s.tm kd d).1)
theorem propose_eq (C : Cr) (kd : Int) (d : List UInt8) : C.propose kd d = if C.role = 2 then (if kd = 2 ∧ C.change d ≠ 0 then (C, 0, [], C.change d) else proG C kd d) else (C, 0, [], 30) := by
  unfold Cr.propose proG
  by_cases h1 : C.role = 2
  · rw [if_neg (fun h => h h1), if_pos h1]
    split
    · rfl
    · dsimp only
      by_cases h2 : (addL C.s.b C.s.t C.s.l C.s.tm kd d).1 = 0
      · rw [if_neg (fun h => h h2), if_pos h2]
      · rw [if_pos h2, if_neg h2]
  · rw [if_pos h1, if_neg h1]
set_option maxHeartbeats 25600000 in
theorem propose_any {fb p : Nat} {w : World} {V U : Nat → Prop} {C : Cr} {m : Mb} {k : Nat} (kd : Int) (D : Option Addr) (nd cd : Nat) (d : List UInt8) (h : CX fb w p V U C m) (ho : C.Ok k) (he : Env fb w) (hd : Rd w T 1 D nd (bs d)) (hnd : nd ≤ cd ∧ cd ≤ maxLen) :
    Calls Tryz.prog 19 #[.pointer (some ⟨p, 0, none⟩), .int .i64 kd, .slice D nd cd] w (ProPost fb w p V U (C.propose kd d)) := by
  have hpr := propose_eq C kd d
  have hf := h.fit ho
  have c7 : w.cell? ⟨p, 7, none⟩ = some (.int .i64 C.role) := h.bx.c 7
  have hch := change_any D nd cd d h ho he hd hnd
  have Hch := Lib.hid hch
  have H := Lib.hid (And.intro h (And.intro ho (And.intro he (And.intro hd (And.intro hf hpr)))))
  clear h ho he hd hnd hf hch hpr
  by_cases hr : C.role = 2
  · have hr' : (C.role != 2) = false := by simp [hr]
    have hpr2 := H.out.2.2.2.2.2
    rw [if_pos hr] at hpr2
    have HP := Lib.hid hpr2
    clear hpr2
    by_cases hk2 : kd = 2 ∧ C.change d ≠ 0
    · obtain ⟨rfl, hcn⟩ := hk2
      have HP2 := HP.out
      rw [if_pos ⟨rfl, hcn⟩] at HP2
      have HPP := Lib.hid HP2
      clear HP2
      go_enter Tryz.func19, Tryz.ntmps19
      go_wp2_with fail
      refine Hch.out.mono ?_
      rintro e w1 ⟨rfl, hb1⟩
      have B1 := Lib.hid hb1
      clear hb1
      have e1 : errE (C.change d) = .iface 105 (.int .i64 (C.change d)) := errE_ne hcn
      rw [e1]
      go_wp2_with fail
      go_ret3
      rw [HPP.out]
      exact proNo H.out.1 B1.out (by rw [e1]; rfl)
    · have HP2 := HP.out
      rw [if_neg hk2] at HP2
      have hdn : kd = 2 → (confD d).isNone = false := fun e => change_ne (Decidable.of_not_not fun h2 => hk2 ⟨e, h2⟩)
      have HPP := Lib.hid (And.intro HP2 hdn)
      clear HP2 hdn
      go_enter Tryz.func19, Tryz.ntmps19
      go_upto_if 27 with (fail)
      go_cut [9] (fun s9 W => Below w.heap.size w W)
      case first =>
        by_cases he2 : kd = 2
        · subst he2
          have hc0 : C.change d = 0 := Decidable.of_not_not fun h2 => hk2 ⟨rfl, h2⟩
          go_wp2_with fail
          refine Hch.out.mono ?_
          rintro e w1 ⟨rfl, hb1⟩
          have B1 := Lib.hid hb1
          clear hb1
          rw [hc0, errE0]
          go_wp2_with fail
          go_meet
          case rel => exact B1.out
        · have he2' : (kd == 2) = false := by simp [he2]
          go_wp2_with fail
          go_meet
          case rel => exact Below.refl _ _
      case rest =>
        have BC := Lib.hid hcut
        clear hcut
        have hto := (CTo.refl H.out.1).below BC.out
        have hcx := hto.cx
        have hfit := H.out.2.2.2.2.1
        obtain ⟨s1, s2, s3, s4, s5, s6, s7⟩ := H.out.1.s_eq
        have hadd := fun W (hb : Below wc.heap.size wc W) => add_all m.s.b m.s.t C.s.tm kd m.s.A m.s.n m.s.c m.s.L D nd cd d W (hcx.below hb).at_.l.any (hcx.below hb).at_.dat (hcx.at_.wel hfit) (fun x hx => (hfit.w x hx).2) (hcx.lm H.out.2.1.may) ((H.out.2.2.2.1.below BC.out).below hb)
        have er : addL m.s.b m.s.t (m.s.L.map en) C.s.tm kd d = addL C.s.b C.s.t C.s.l C.s.tm kd d := by rw [s3, s4, s5]
        rw [er] at hadd
        have hpg : proG C kd d = if (addL C.s.b C.s.t C.s.l C.s.tm kd d).1 = 0 then ((C.withLog (addL C.s.b C.s.t C.s.l C.s.tm kd d).2).tell.1, (C.withLog (addL C.s.b C.s.t C.s.l C.s.tm kd d).2).last, (C.withLog (addL C.s.b C.s.t C.s.l C.s.tm kd d).2).tell.2, 0) else (C, 0, [], (addL C.s.b C.s.t C.s.l C.s.tm kd d).1) := rfl
        have hgrow : (addL C.s.b C.s.t C.s.l C.s.tm kd d).1 = 0 → (C.withLog (addL C.s.b C.s.t C.s.l C.s.tm kd d).2).Ok k ∧ (addL C.s.b C.s.t C.s.l C.s.tm kd d).2 = C.s.l ++ [⟨lstA C.s.b C.s.l + 1, C.s.tm, kd, d⟩] := fun h0 => ⟨H.out.2.1.grow HPP.out.2 h0, (addL_may H.out.2.1.may HPP.out.2 h0).2⟩
        obtain ⟨r, hr⟩ : ∃ r, addL C.s.b C.s.t C.s.l C.s.tm kd d = r := ⟨_, rfl⟩
        rw [hr] at hadd hpg hgrow
        have F : ∀ W, Below wc.heap.size wc W → W.cell? ⟨p, 2, none⟩ = some (.int .i64 m.s.b) ∧ W.cell? ⟨p, 3, none⟩ = some (.int .i64 m.s.t) ∧ W.cell? ⟨p, 4, none⟩ = some (.slice m.s.A m.s.n m.s.c) ∧ W.cell? ⟨p, 0, none⟩ = some (.int .i64 C.s.tm) := fun W hb =>
          ⟨(hcx.below hb).bx.c 2, (hcx.below hb).bx.c 3, (hcx.below hb).bx.c 4, by rw [← s1]; exact (hcx.below hb).bx.c 0⟩
        have FF := Lib.hid F
        have Hadd := Lib.hid hadd
        have es : C.s = C.s := rfl
        have s3' : m.s.b = C.s.b := s3
        have HT := Lib.hid (And.intro hpg (And.intro hto (And.intro hgrow (And.intro s3 (And.intro s4 s5)))))
        clear hto hcx hfit s1 s2 s3 s4 s5 s6 s7 hadd er hpg hr hgrow F es s3' c7
        go_upto_region 9 with (fail)
        by_cases h0 : r.1 = 0
        · refine wp_region_S 18 (fun W => Below wc.heap.size wc W) (.take 0 (.take 1 (.take 2 (.take 3 (.take 4 (.take 5 (.take 6 (.take 7 (.take 8 (.take 9 (.take 10 (.take 11 (.two 12 16 (.take 13 (.take 14 (.take 15 (.one 16 (.one 17 (.one 18 (.nil))))))) (.one 12 (.take 13 (.take 14 (.take 15 (.one 17 (.one 18 (.nil)))))))))))))))))))) (by kernel_rfl) (Below.refl _ _).drew (fun _ _ _ _ h => h) (fun hS => ?_)
          repeat (first
            | (refine wpS_take (v := ?_) rfl rfl (by rfl) ?_ ?_; rotate_left; (intro W hW; have hf := FF.out W hW; go_split_ands; go_simp; try with_reducible rfl); try simp only [Act.put, List.setIfInBounds_toArray, List.set_cons_zero, List.set_cons_succ])
            | (refine wpS_skip rfl rfl (by rfl) ?_; try simp only [Act.put, List.setIfInBounds_toArray, List.set_cons_zero, List.set_cons_succ]))
          refine wpS_two rfl rfl (by rfl) (by rfl) (fun K hK => ?_) (fun K hK => ?_)
          · go_simp
            go_at_call 54
            refine (Hadd.out _ (Below.refl _ _).drew).mono ?_
            intro e w5 h5
            unfold AddAll at h5
            rw [if_pos h0] at h5
            obtain ⟨A5, c5, L5, rfl, r5, d5, m5, k5, k6, hb5⟩ := h5
            have hS5 : Below wc.heap.size wc w5 := ((Below.refl _ _).drew).trans (hb5.mono (Nat.le_refl _))
            have N5 := Lib.hid (And.intro r5 (And.intro d5 (And.intro m5 (And.intro k5 k6))))
            clear r5 d5 m5
            clear hb5
            refine hK (fun W => Below wc.heap.size wc W) _ _ (fun _ h => h) hS5 ?_
            clear hK K
            try simp only [Act.put, List.setIfInBounds_toArray, List.set_cons_zero, List.set_cons_succ]
            repeat (first
              | (refine wpS_take (v := ?_) rfl rfl (by rfl) ?_ ?_; rotate_left; (intro W hW; have hf := FF.out W hW; go_split_ands; go_simp; try with_reducible rfl); try simp only [Act.put, List.setIfInBounds_toArray, List.set_cons_zero, List.set_cons_succ])
              | (refine wpS_skip rfl rfl (by rfl) ?_; try simp only [Act.put, List.setIfInBounds_toArray, List.set_cons_zero, List.set_cons_succ]))
            refine wpS_one rfl (by rfl) (fun K hK => ?_)
            go_simp
            obtain ⟨va, hva⟩ : ∃ va, va = World.alloc w5 (.cells #[.int .i64 0, .int .i64 0, .slice none 0 0] 38) := ⟨_, rfl⟩
            obtain ⟨gx, hgx⟩ : ∃ g, g = (World.heap w5).size := ⟨_, rfl⟩
            have bxa : Bx va gx #[.int .i64 0, .int .i64 0, .slice none 0 0] := by subst hva hgx; exact Bx.new _ _ _ rfl
            have hbva : Below wc.heap.size wc va := by subst hva; exact (hS5).alloc (hS5).size _
            have hzx : wc.heap.size ≤ gx ∧ gx < va.heap.size ∧ (World.heap w5).size = gx := by subst hva hgx; exact ⟨(hS5).size, by simp, rfl⟩
            have hal : Below gx w5 va := by subst hva hgx; exact (Below.refl _ _).alloc (Nat.le_refl _) _
            rw [← hva]
            try rw [← hgx]
            clear hva hgx
            refine hK (fun W => Below wc.heap.size wc W) _ _ (fun _ h => h) hbva ?_
            clear hK K
            try simp only [Act.put, List.setIfInBounds_toArray, List.set_cons_zero, List.set_cons_succ]
            obtain ⟨q0, q1, q2, p0, p1, p2⟩ := bxa.c3
            refine wpS_one rfl (by rfl) (fun K hK => ?_)
            go_simp
            obtain ⟨W7, hW7⟩ : ∃ W7, W7 = ((va.setCell ⟨gx, 0, none⟩ (.int .i64 m.s.b)).setCell ⟨gx, 1, none⟩ (.int .i64 m.s.t)).setCell ⟨gx, 2, none⟩ (.slice A5 (m.s.n + 1) c5) := ⟨_, rfl⟩
            have b7 : Bx W7 gx #[.int .i64 m.s.b, .int .i64 m.s.t, .slice A5 (m.s.n + 1) c5] := by subst hW7; exact ((bxa.set 0 _).set 1 _).set 2 _
            have hb7 : Below wc.heap.size wc W7 := by subst hW7; exact ((hbva.setCell (p := ⟨gx, 0, none⟩) hzx.1 _).setCell (p := ⟨gx, 1, none⟩) hzx.1 _).setCell (p := ⟨gx, 2, none⟩) hzx.1 _
            have hk5 : ∀ b, wc.drew.heap.size ≤ b → b < w5.heap.size → W7.heap[b]? = w5.heap[b]? := fun b _ hb => by
              have hne : b ≠ gx := by have := hzx.2.2; omega
              subst hW7
              iterate 3 refine (Below.heap_setCell _ _ _ b hne).trans ?_
              exact hal.block b (by have := hzx.2.2; omega)
            have r7 : Rd W7 (wc.heap.size ≤ ·) 4 A5 (m.s.n + 1) (flat ecell L5) := (N5.out.1.keep (w' := W7) (fun b hb hl => hk5 b hb hl)).mono fun b hb => (hb : wc.heap.size ≤ b)
            have d7 : ∀ y ∈ L5, Rd W7 (wc.heap.size ≤ ·) 1 y.A y.n (bs y.d) ∧ y.n ≤ y.m ∧ y.m ≤ maxLen := fun y hy => ⟨((N5.out.2.1 y hy).1.keep (w' := W7) (fun b hb hl => hk5 b hb hl)).mono fun b hb => (hb : wc.heap.size ≤ b), (N5.out.2.1 y hy).2⟩
            rw [← hW7]
            have K7 := Lib.hid (And.intro b7 hb7)
            have N7 := Lib.hid (And.intro r7 d7)
            clear r7 d7
            clear hk5
            clear hW7 b7 hb7
            refine hK (fun W => Below wc.heap.size wc W) _ _ (fun _ h => h) K7.out.2 ?_
            clear hK K q0 q1 q2 p0 p1 p2
            try simp only [Act.put, List.setIfInBounds_toArray, List.set_cons_zero, List.set_cons_succ]
            refine wpS_last rfl (by rfl) (fun K hK => ?_)
            go_simp
            refine hK _ _ ?_
            clear hK K
            try simp only [Act.put, List.setIfInBounds_toArray, List.set_cons_zero, List.set_cons_succ]
            refine wpS_nil ?_
            have hu7 : ∀ b, wc.heap.size ≤ b → ¬ U b := fun b hb hu => by have := HT.out.2.1.cx.ul b hu; omega
            have hto8 := (HT.out.2.1.below K7.out.2).logged (A := A5) (n := m.s.n + 1) (c := c5) (L := L5) (N7.out.1.mono hu7) (fun y hy => ⟨(N7.out.2 y hy).1.mono hu7, (N7.out.2 y hy).2⟩) ⟨N5.out.2.2.2.1, N5.out.2.2.2.2⟩
            have e5 : L5.map en = r.2 := by
              rw [(HT.out.2.2.1 h0).2, N5.out.2.2.1, HT.out.2.2.2.1, HT.out.2.2.2.2.2]
            rw [e5] at hto8
            have q2 : W7.cell? ⟨p, 2, none⟩ = some (.int .i64 m.s.b) := (HT.out.2.1.below K7.out.2).cx.bx.c 2
            have q3 : W7.cell? ⟨p, 3, none⟩ = some (.int .i64 m.s.t) := (HT.out.2.1.below K7.out.2).cx.bx.c 3
            have q4 : W7.cell? ⟨p, 4, none⟩ = some (.slice m.s.A m.s.n m.s.c) := (HT.out.2.1.below K7.out.2).cx.bx.c 4
            have p2 := (HT.out.2.1.below K7.out.2).cx.bx.f 2
            have p3 := (HT.out.2.1.below K7.out.2).cx.bx.f 3
            have p4 := (HT.out.2.1.below K7.out.2).cx.bx.f 4
            obtain ⟨z0, z1, z2, _, _, _⟩ := K7.out.1.c3
            obtain ⟨W8, hW8⟩ : ∃ W8, W8 = ((W7.setCell ⟨p, 2, none⟩ (.int .i64 m.s.b)).setCell ⟨p, 3, none⟩ (.int .i64 m.s.t)).setCell ⟨p, 4, none⟩ (.slice A5 (m.s.n + 1) c5) := ⟨_, rfl⟩
            rw [← hW8] at hto8
            have hok8 : (C.withLog r.2).Ok k := (HT.out.2.2.1 h0).1
            have hen8 : Env fb W8 := H.out.2.2.1.kept hto8.kept H.out.1.vf
            have hcl8 := clast_any hto8.cx (hto8.cx.fit hok8) hok8.may
            have hal8 := fun W (hb : Below W8.heap.size W8 W) => sendAll_any (hto8.cx.below hb) hok8 (hen8.new hb)
            have T8 := Lib.hid (And.intro hto8 (And.intro hok8 hen8))
            have Hal8 := Lib.hid hal8
            have Hcl8 := Lib.hid hcl8
            clear hto8 hok8 hen8 hal8 e5 hu7 hcl8
            go_upto_region 13 with (fail)
            rw [← hW8]
            clear q2 q3 q4 p2 p3 p4 z0 z1 z2 hW8
            go_wp2_with fail
            refine Hcl8.out.mono ?_
            rintro e w8 ⟨rfl, hb8⟩
            have B8 := Lib.hid hb8
            clear hb8
            go_wp2_with fail
            refine (Hal8.out w8 B8.out).mono ?_
            intro e w9 h9
            obtain ⟨A9, n9, c9, X9, rfl, r9, m9, x9, k9⟩ := h9
            have hwid := (T8.out.1.cx.below B8.out).widen x9 k9 (N := fun b => A9.map (·.block) = some b) (own_lt r9.ow) (sendAll_keep _).1 (sendAll_keep _).2
            have hen9 : Env fb w9 := (T8.out.2.2.new B8.out).kept k9 fun b e => by rw [e]; exact T8.out.1.cx.vf _ T8.out.1.cx.vq
            have hadv := advance_any hwid T8.out.2.1.sendAll hen9
            have h9n : n9 ≤ 7 := by
              have h1 := r9.len
              have h2 := congrArg List.length m9
              rw [List.length_map, h1, sendAll_len] at h2
              have := others_len T8.out.2.1.may
              omega
            have K9 := Lib.hid (And.intro r9 (And.intro m9 (And.intro x9 k9)))
            have Hadv := Lib.hid hadv
            clear r9 m9 x9 k9 hwid hen9 hadv
            go_wp2_with fail
            refine Hadv.out.mono ?_
            intro e w10 h10
            obtain ⟨A10, n10, c10, X10, V10, U10, M10, rfl, r10, m10, u10, t10⟩ := h10
            have h10n : n10 ≤ 7 := by
              have h1 := r10.len
              have h2 := congrArg List.length m10
              rw [List.length_map, h1] at h2
              have := advance_len T8.out.2.1.sendAll
              omega
            have r9' : Rm w10 w8.heap.size A9 n9 c9 X9 := K9.out.1.kept t10.kept fun b hb => (T8.out.1.cx.below B8.out).ul b (T8.out.1.cx.vu b hb)
            have hz10 : w8.heap.size ≤ w10.heap.size := Nat.le_trans K9.out.2.2.2.size t10.kept.size
            have K10 := Lib.hid (And.intro r10 (And.intro m10 (And.intro u10 (And.intro t10 r9'))))
            clear r10 m10 u10 t10 r9'
            go_wp2_with (at_builtin; refine wpList_append_any _ Tryz.underlying54 msg_elem rfl (by omega) rfl rfl rfl K10.out.2.2.2.2.ow rfl (Rd.of_own K10.out.1.ow).any (mcell_one X10) (by omega) hz10 rfl rfl ?_; intro A11 c11 w11 hown11 hg11 hat11)
            go_ret3
            obtain ⟨j1, j2, j3⟩ := join_out (T8.out.1.cx.below B8.out) K9.out.1 K9.out.2.2.2 K10.out.1 K10.out.2.2.1 K10.out.2.2.2.1 hown11 hg11 hat11
            rw [HPP.out.1, HT.out.1, if_pos h0]
            refine ⟨A11, n9 + n10, c11, rfl, OutPost.up (T8.out.1.below B8.out) ⟨A11, n9 + n10, c11, X9 ++ X10, V10, U10, M10, rfl, j1, ?_, j2, j3⟩⟩
            rw [List.map_append, K9.out.2.1, K10.out.2.1]
            rfl
          · go_simp
            obtain ⟨va, hva⟩ : ∃ va, va = (World.alloc wc (.cells #[.int .i64 0, .int .i64 0, .slice none 0 0] 38)).drew := ⟨_, rfl⟩
            obtain ⟨gx, hgx⟩ : ∃ g, g = wc.heap.size := ⟨_, rfl⟩
            have bxa : Bx va gx #[.int .i64 0, .int .i64 0, .slice none 0 0] := by subst hva hgx; exact (Bx.new _ _ _ rfl).drew
            have hbva : Below wc.heap.size wc va := by subst hva; exact ((Below.refl _ _).alloc (Nat.le_refl _) _).drew
            have hzx : wc.heap.size ≤ gx ∧ gx < va.heap.size ∧ wc.heap.size = gx := by subst hva hgx; exact ⟨Nat.le_refl _, by simp [World.drew], rfl⟩
            try rw [← hgx]
            rw [← hva]
            clear hva hgx
            refine hK (fun W => Below wc.heap.size wc W) _ _ (fun _ h => h) hbva ?_
            clear hK K
            try simp only [Act.put, List.setIfInBounds_toArray, List.set_cons_zero, List.set_cons_succ]
            refine wpS_one rfl (by rfl) (fun K hK => ?_)
            go_simp
            go_at_call 54
            refine (Hadd.out _ hbva).mono ?_
            intro e w5 h5
            unfold AddAll at h5
            rw [if_pos h0] at h5
            obtain ⟨A5, c5, L5, rfl, r5, d5, m5, k5, k6, hb5⟩ := h5
            have hS5 : Below wc.heap.size wc w5 := (hbva).trans (hb5.mono hbva.size)
            have bx5 := bxa.below hb5
            have N5 := Lib.hid (And.intro r5 (And.intro d5 (And.intro m5 (And.intro k5 k6))))
            clear r5 d5 m5
            clear hb5
            refine hK (fun W => Below wc.heap.size wc W) _ _ (fun _ h => h) hS5 ?_
            clear hK K
            try simp only [Act.put, List.setIfInBounds_toArray, List.set_cons_zero, List.set_cons_succ]
            repeat (first
              | (refine wpS_take (v := ?_) rfl rfl (by rfl) ?_ ?_; rotate_left; (intro W hW; have hf := FF.out W hW; go_split_ands; go_simp; try with_reducible rfl); try simp only [Act.put, List.setIfInBounds_toArray, List.set_cons_zero, List.set_cons_succ])
              | (refine wpS_skip rfl rfl (by rfl) ?_; try simp only [Act.put, List.setIfInBounds_toArray, List.set_cons_zero, List.set_cons_succ]))
            obtain ⟨q0, q1, q2, p0, p1, p2⟩ := bx5.c3
            refine wpS_one rfl (by rfl) (fun K hK => ?_)
            go_simp
            obtain ⟨W7, hW7⟩ : ∃ W7, W7 = ((w5.setCell ⟨gx, 0, none⟩ (.int .i64 m.s.b)).setCell ⟨gx, 1, none⟩ (.int .i64 m.s.t)).setCell ⟨gx, 2, none⟩ (.slice A5 (m.s.n + 1) c5) := ⟨_, rfl⟩
            have b7 : Bx W7 gx #[.int .i64 m.s.b, .int .i64 m.s.t, .slice A5 (m.s.n + 1) c5] := by subst hW7; exact ((bx5.set 0 _).set 1 _).set 2 _
            have hb7 : Below wc.heap.size wc W7 := by subst hW7; exact ((hS5.setCell (p := ⟨gx, 0, none⟩) hzx.1 _).setCell (p := ⟨gx, 1, none⟩) hzx.1 _).setCell (p := ⟨gx, 2, none⟩) hzx.1 _
            have hk5 : ∀ b, va.heap.size ≤ b → W7.heap[b]? = w5.heap[b]? := fun b hb => by
              have hne : b ≠ gx := by have := hzx.2.1; omega
              subst hW7
              iterate 3 refine (Below.heap_setCell _ _ _ b hne).trans ?_
              rfl
            have r7 : Rd W7 (wc.heap.size ≤ ·) 4 A5 (m.s.n + 1) (flat ecell L5) := (N5.out.1.keep (w' := W7) (fun b hb _ => hk5 b hb)).mono fun b hb => (by have := hbva.size; omega : wc.heap.size ≤ b)
            have d7 : ∀ y ∈ L5, Rd W7 (wc.heap.size ≤ ·) 1 y.A y.n (bs y.d) ∧ y.n ≤ y.m ∧ y.m ≤ maxLen := fun y hy => ⟨((N5.out.2.1 y hy).1.keep (w' := W7) (fun b hb _ => hk5 b hb)).mono fun b hb => (by have := hbva.size; omega : wc.heap.size ≤ b), (N5.out.2.1 y hy).2⟩
            rw [← hW7]
            have K7 := Lib.hid (And.intro b7 hb7)
            have N7 := Lib.hid (And.intro r7 d7)
            clear r7 d7
            clear hk5
            clear hW7 b7 hb7
            refine hK (fun W => Below wc.heap.size wc W) _ _ (fun _ h => h) K7.out.2 ?_
            clear hK K q0 q1 q2 p0 p1 p2
            try simp only [Act.put, List.setIfInBounds_toArray, List.set_cons_zero, List.set_cons_succ]
            refine wpS_last rfl (by rfl) (fun K hK => ?_)
            go_simp
            refine hK _ _ ?_
            clear hK K
            try simp only [Act.put, List.setIfInBounds_toArray, List.set_cons_zero, List.set_cons_succ]
            refine wpS_nil ?_
            have hu7 : ∀ b, wc.heap.size ≤ b → ¬ U b := fun b hb hu => by have := HT.out.2.1.cx.ul b hu; omega
            have hto8 := (HT.out.2.1.below K7.out.2).logged (A := A5) (n := m.s.n + 1) (c := c5) (L := L5) (N7.out.1.mono hu7) (fun y hy => ⟨(N7.out.2 y hy).1.mono hu7, (N7.out.2 y hy).2⟩) ⟨N5.out.2.2.2.1, N5.out.2.2.2.2⟩
            have e5 : L5.map en = r.2 := by
              rw [(HT.out.2.2.1 h0).2, N5.out.2.2.1, HT.out.2.2.2.1, HT.out.2.2.2.2.2]
            rw [e5] at hto8
            have q2 : W7.cell? ⟨p, 2, none⟩ = some (.int .i64 m.s.b) := (HT.out.2.1.below K7.out.2).cx.bx.c 2
            have q3 : W7.cell? ⟨p, 3, none⟩ = some (.int .i64 m.s.t) := (HT.out.2.1.below K7.out.2).cx.bx.c 3
            have q4 : W7.cell? ⟨p, 4, none⟩ = some (.slice m.s.A m.s.n m.s.c) := (HT.out.2.1.below K7.out.2).cx.bx.c 4
            have p2 := (HT.out.2.1.below K7.out.2).cx.bx.f 2
            have p3 := (HT.out.2.1.below K7.out.2).cx.bx.f 3
            have p4 := (HT.out.2.1.below K7.out.2).cx.bx.f 4
            obtain ⟨z0, z1, z2, _, _, _⟩ := K7.out.1.c3
            obtain ⟨W8, hW8⟩ : ∃ W8, W8 = ((W7.setCell ⟨p, 2, none⟩ (.int .i64 m.s.b)).setCell ⟨p, 3, none⟩ (.int .i64 m.s.t)).setCell ⟨p, 4, none⟩ (.slice A5 (m.s.n + 1) c5) := ⟨_, rfl⟩
            rw [← hW8] at hto8
            have hok8 : (C.withLog r.2).Ok k := (HT.out.2.2.1 h0).1
            have hen8 : Env fb W8 := H.out.2.2.1.kept hto8.kept H.out.1.vf
            have hcl8 := clast_any hto8.cx (hto8.cx.fit hok8) hok8.may
            have hal8 := fun W (hb : Below W8.heap.size W8 W) => sendAll_any (hto8.cx.below hb) hok8 (hen8.new hb)
            have T8 := Lib.hid (And.intro hto8 (And.intro hok8 hen8))
            have Hal8 := Lib.hid hal8
            have Hcl8 := Lib.hid hcl8
            clear hto8 hok8 hen8 hal8 e5 hu7 hcl8
            go_upto_region 13 with (fail)
            rw [← hW8]
            clear q2 q3 q4 p2 p3 p4 z0 z1 z2 hW8
            go_wp2_with fail
            refine Hcl8.out.mono ?_
            rintro e w8 ⟨rfl, hb8⟩
            have B8 := Lib.hid hb8
            clear hb8
            go_wp2_with fail
            refine (Hal8.out w8 B8.out).mono ?_
            intro e w9 h9
            obtain ⟨A9, n9, c9, X9, rfl, r9, m9, x9, k9⟩ := h9
            have hwid := (T8.out.1.cx.below B8.out).widen x9 k9 (N := fun b => A9.map (·.block) = some b) (own_lt r9.ow) (sendAll_keep _).1 (sendAll_keep _).2
            have hen9 : Env fb w9 := (T8.out.2.2.new B8.out).kept k9 fun b e => by rw [e]; exact T8.out.1.cx.vf _ T8.out.1.cx.vq
            have hadv := advance_any hwid T8.out.2.1.sendAll hen9
            have h9n : n9 ≤ 7 := by
              have h1 := r9.len
              have h2 := congrArg List.length m9
              rw [List.length_map, h1, sendAll_len] at h2
              have := others_len T8.out.2.1.may
              omega
            have K9 := Lib.hid (And.intro r9 (And.intro m9 (And.intro x9 k9)))
            have Hadv := Lib.hid hadv
            clear r9 m9 x9 k9 hwid hen9 hadv
            go_wp2_with fail
            refine Hadv.out.mono ?_
            intro e w10 h10
            obtain ⟨A10, n10, c10, X10, V10, U10, M10, rfl, r10, m10, u10, t10⟩ := h10
            have h10n : n10 ≤ 7 := by
              have h1 := r10.len
              have h2 := congrArg List.length m10
              rw [List.length_map, h1] at h2
              have := advance_len T8.out.2.1.sendAll
              omega
            have r9' : Rm w10 w8.heap.size A9 n9 c9 X9 := K9.out.1.kept t10.kept fun b hb => (T8.out.1.cx.below B8.out).ul b (T8.out.1.cx.vu b hb)
            have hz10 : w8.heap.size ≤ w10.heap.size := Nat.le_trans K9.out.2.2.2.size t10.kept.size
            have K10 := Lib.hid (And.intro r10 (And.intro m10 (And.intro u10 (And.intro t10 r9'))))
            clear r10 m10 u10 t10 r9'
            go_wp2_with (at_builtin; refine wpList_append_any _ Tryz.underlying54 msg_elem rfl (by omega) rfl rfl rfl K10.out.2.2.2.2.ow rfl (Rd.of_own K10.out.1.ow).any (mcell_one X10) (by omega) hz10 rfl rfl ?_; intro A11 c11 w11 hown11 hg11 hat11)
            go_ret3
            obtain ⟨j1, j2, j3⟩ := join_out (T8.out.1.cx.below B8.out) K9.out.1 K9.out.2.2.2 K10.out.1 K10.out.2.2.1 K10.out.2.2.2.1 hown11 hg11 hat11
            rw [HPP.out.1, HT.out.1, if_pos h0]
            refine ⟨A11, n9 + n10, c11, rfl, OutPost.up (T8.out.1.below B8.out) ⟨A11, n9 + n10, c11, X9 ++ X10, V10, U10, M10, rfl, j1, ?_, j2, j3⟩⟩
            rw [List.map_append, K9.out.2.1, K10.out.2.1]
            rfl
        · refine wp_region_S 18 (fun W => Below wc.heap.size wc W) (.take 0 (.take 1 (.take 2 (.take 3 (.take 4 (.take 5 (.take 6 (.take 7 (.take 8 (.take 9 (.take 10 (.take 11 (.two 12 16 (.take 13 (.take 14 (.take 15 (.one 16 (.one 17 (.one 18 (.nil))))))) (.one 12 (.take 13 (.take 14 (.take 15 (.one 17 (.one 18 (.nil)))))))))))))))))))) (by kernel_rfl) (Below.refl _ _).drew (fun _ _ _ _ h => h) (fun hS => ?_)
          repeat (first
            | (refine wpS_take (v := ?_) rfl rfl (by rfl) ?_ ?_; rotate_left; (intro W hW; have hf := FF.out W hW; go_split_ands; go_simp; try with_reducible rfl); try simp only [Act.put, List.setIfInBounds_toArray, List.set_cons_zero, List.set_cons_succ])
            | (refine wpS_skip rfl rfl (by rfl) ?_; try simp only [Act.put, List.setIfInBounds_toArray, List.set_cons_zero, List.set_cons_succ]))
          refine wpS_two rfl rfl (by rfl) (by rfl) (fun K hK => ?_) (fun K hK => ?_)
          · go_simp
            go_at_call 54
            refine (Hadd.out _ (Below.refl _ _).drew).mono ?_
            intro e w5 h5
            unfold AddAll at h5
            rw [if_neg h0] at h5
            obtain ⟨rfl, hb5⟩ := h5
            have hS5 : Below wc.heap.size wc w5 := ((Below.refl _ _).drew).trans (hb5.mono (Nat.le_refl _))
            clear hb5
            refine hK (fun W => Below wc.heap.size wc W) _ _ (fun _ h => h) hS5 ?_
            clear hK K
            try simp only [Act.put, List.setIfInBounds_toArray, List.set_cons_zero, List.set_cons_succ]
            repeat (first
              | (refine wpS_take (v := ?_) rfl rfl (by rfl) ?_ ?_; rotate_left; (intro W hW; have hf := FF.out W hW; go_split_ands; go_simp; try with_reducible rfl); try simp only [Act.put, List.setIfInBounds_toArray, List.set_cons_zero, List.set_cons_succ])
              | (refine wpS_skip rfl rfl (by rfl) ?_; try simp only [Act.put, List.setIfInBounds_toArray, List.set_cons_zero, List.set_cons_succ]))
            refine wpS_one rfl (by rfl) (fun K hK => ?_)
            go_simp
            obtain ⟨va, hva⟩ : ∃ va, va = World.alloc w5 (.cells #[.int .i64 0, .int .i64 0, .slice none 0 0] 38) := ⟨_, rfl⟩
            obtain ⟨gx, hgx⟩ : ∃ g, g = (World.heap w5).size := ⟨_, rfl⟩
            have bxa : Bx va gx #[.int .i64 0, .int .i64 0, .slice none 0 0] := by subst hva hgx; exact Bx.new _ _ _ rfl
            have hbva : Below wc.heap.size wc va := by subst hva; exact (hS5).alloc (hS5).size _
            have hzx : wc.heap.size ≤ gx ∧ gx < va.heap.size ∧ (World.heap w5).size = gx := by subst hva hgx; exact ⟨(hS5).size, by simp, rfl⟩
            have hal : Below gx w5 va := by subst hva hgx; exact (Below.refl _ _).alloc (Nat.le_refl _) _
            rw [← hva]
            try rw [← hgx]
            clear hva hgx
            refine hK (fun W => Below wc.heap.size wc W) _ _ (fun _ h => h) hbva ?_
            clear hK K
            try simp only [Act.put, List.setIfInBounds_toArray, List.set_cons_zero, List.set_cons_succ]
            obtain ⟨q0, q1, q2, p0, p1, p2⟩ := bxa.c3
            refine wpS_one rfl (by rfl) (fun K hK => ?_)
            go_simp
            obtain ⟨W7, hW7⟩ : ∃ W7, W7 = ((va.setCell ⟨gx, 0, none⟩ (.int .i64 0)).setCell ⟨gx, 1, none⟩ (.int .i64 0)).setCell ⟨gx, 2, none⟩ (.slice none 0 0) := ⟨_, rfl⟩
            have b7 : Bx W7 gx #[.int .i64 0, .int .i64 0, .slice none 0 0] := by subst hW7; exact ((bxa.set 0 _).set 1 _).set 2 _
            have hb7 : Below wc.heap.size wc W7 := by subst hW7; exact ((hbva.setCell (p := ⟨gx, 0, none⟩) hzx.1 _).setCell (p := ⟨gx, 1, none⟩) hzx.1 _).setCell (p := ⟨gx, 2, none⟩) hzx.1 _
            rw [← hW7]
            have K7 := Lib.hid (And.intro b7 hb7)
            clear hW7 b7 hb7
            refine hK (fun W => Below wc.heap.size wc W) _ _ (fun _ h => h) K7.out.2 ?_
            clear hK K q0 q1 q2 p0 p1 p2
            try simp only [Act.put, List.setIfInBounds_toArray, List.set_cons_zero, List.set_cons_succ]
            refine wpS_last rfl (by rfl) (fun K hK => ?_)
            go_simp
            refine hK _ _ ?_
            clear hK K
            try simp only [Act.put, List.setIfInBounds_toArray, List.set_cons_zero, List.set_cons_succ]
            refine wpS_nil ?_
            go_wp2_with fail
            go_ret3
            rw [HPP.out.1, HT.out.1, if_neg h0]
            exact proNo H.out.1 (BC.out.trans (K7.out.2.mono BC.out.size)) (by rw [errE_ne h0]; rfl)
          · go_simp
            obtain ⟨va, hva⟩ : ∃ va, va = (World.alloc wc (.cells #[.int .i64 0, .int .i64 0, .slice none 0 0] 38)).drew := ⟨_, rfl⟩
            obtain ⟨gx, hgx⟩ : ∃ g, g = wc.heap.size := ⟨_, rfl⟩
            have bxa : Bx va gx #[.int .i64 0, .int .i64 0, .slice none 0 0] := by subst hva hgx; exact (Bx.new _ _ _ rfl).drew
            have hbva : Below wc.heap.size wc va := by subst hva; exact ((Below.refl _ _).alloc (Nat.le_refl _) _).drew
            have hzx : wc.heap.size ≤ gx ∧ gx < va.heap.size ∧ wc.heap.size = gx := by subst hva hgx; exact ⟨Nat.le_refl _, by simp [World.drew], rfl⟩
            try rw [← hgx]
            rw [← hva]
            clear hva hgx
            refine hK (fun W => Below wc.heap.size wc W) _ _ (fun _ h => h) hbva ?_
            clear hK K
            try simp only [Act.put, List.setIfInBounds_toArray, List.set_cons_zero, List.set_cons_succ]
            refine wpS_one rfl (by rfl) (fun K hK => ?_)
            go_simp
            go_at_call 54
            refine (Hadd.out _ hbva).mono ?_
            intro e w5 h5
            unfold AddAll at h5
            rw [if_neg h0] at h5
            obtain ⟨rfl, hb5⟩ := h5
            have hS5 : Below wc.heap.size wc w5 := (hbva).trans (hb5.mono hbva.size)
            have bx5 := bxa.below hb5
            clear hb5
            refine hK (fun W => Below wc.heap.size wc W) _ _ (fun _ h => h) hS5 ?_
            clear hK K
            try simp only [Act.put, List.setIfInBounds_toArray, List.set_cons_zero, List.set_cons_succ]
            repeat (first
              | (refine wpS_take (v := ?_) rfl rfl (by rfl) ?_ ?_; rotate_left; (intro W hW; have hf := FF.out W hW; go_split_ands; go_simp; try with_reducible rfl); try simp only [Act.put, List.setIfInBounds_toArray, List.set_cons_zero, List.set_cons_succ])
              | (refine wpS_skip rfl rfl (by rfl) ?_; try simp only [Act.put, List.setIfInBounds_toArray, List.set_cons_zero, List.set_cons_succ]))
            obtain ⟨q0, q1, q2, p0, p1, p2⟩ := bx5.c3
            refine wpS_one rfl (by rfl) (fun K hK => ?_)
            go_simp
            obtain ⟨W7, hW7⟩ : ∃ W7, W7 = ((w5.setCell ⟨gx, 0, none⟩ (.int .i64 0)).setCell ⟨gx, 1, none⟩ (.int .i64 0)).setCell ⟨gx, 2, none⟩ (.slice none 0 0) := ⟨_, rfl⟩
            have b7 : Bx W7 gx #[.int .i64 0, .int .i64 0, .slice none 0 0] := by subst hW7; exact ((bx5.set 0 _).set 1 _).set 2 _
            have hb7 : Below wc.heap.size wc W7 := by subst hW7; exact ((hS5.setCell (p := ⟨gx, 0, none⟩) hzx.1 _).setCell (p := ⟨gx, 1, none⟩) hzx.1 _).setCell (p := ⟨gx, 2, none⟩) hzx.1 _
            rw [← hW7]
            have K7 := Lib.hid (And.intro b7 hb7)
            clear hW7 b7 hb7
            refine hK (fun W => Below wc.heap.size wc W) _ _ (fun _ h => h) K7.out.2 ?_
            clear hK K q0 q1 q2 p0 p1 p2
            try simp only [Act.put, List.setIfInBounds_toArray, List.set_cons_zero, List.set_cons_succ]
            refine wpS_last rfl (by rfl) (fun K hK => ?_)
            go_simp
            refine hK _ _ ?_
            clear hK K
            try simp only [Act.put, List.setIfInBounds_toArray, List.set_cons_zero, List.set_cons_succ]
            refine wpS_nil ?_
            go_wp2_with fail
            go_ret3
            rw [HPP.out.1, HT.out.1, if_neg h0]
            exact proNo H.out.1 (BC.out.trans (K7.out.2.mono BC.out.size)) (by rw [errE_ne h0]; rfl)
  · have hr' : (C.role != 2) = true := by simp [hr]
    go_enter Tryz.func19, Tryz.ntmps19
    go_wp2_with fail
    go_ret3
    rw [H.out.2.2.2.2.2, if_neg hr]
    exact proNo H.out.1 (Below.refl _ _) (by rw [errE_ne (by decide)]; rfl)
end Go.Proofs.YtmhaahcbmdhinaaGreatDoor

namespace Go.Proofs.YtmhaahcbmdhinaaGreatDoor
open Go.RowKit
set_option linter.unusedVariables false
theorem Bx.set7 {W : World} {g : Nat} {o0 o1 o2 o3 o4 o5 o6 : Value} (h : Bx W g #[o0, o1, o2, o3, o4, o5, o6]) (a b c d e f k : Value) :
    Bx (((((((W.setCell ⟨g, 0, none⟩ a).setCell ⟨g, 1, none⟩ b).setCell ⟨g, 2, none⟩ c).setCell ⟨g, 3, none⟩ d).setCell ⟨g, 4, none⟩ e).setCell ⟨g, 5, none⟩ f).setCell ⟨g, 6, none⟩ k) g #[a, b, c, d, e, f, k] := by
  have h1 : Bx (W.setCell ⟨g, 0, none⟩ a) g #[a, o1, o2, o3, o4, o5, o6] := h.set 0 a
  have h2 : Bx ((W.setCell ⟨g, 0, none⟩ a).setCell ⟨g, 1, none⟩ b) g #[a, b, o2, o3, o4, o5, o6] := h1.set 1 b
  have h3 : Bx (((W.setCell ⟨g, 0, none⟩ a).setCell ⟨g, 1, none⟩ b).setCell ⟨g, 2, none⟩ c) g #[a, b, c, o3, o4, o5, o6] := h2.set 2 c
  have h4 : Bx ((((W.setCell ⟨g, 0, none⟩ a).setCell ⟨g, 1, none⟩ b).setCell ⟨g, 2, none⟩ c).setCell ⟨g, 3, none⟩ d) g #[a, b, c, d, o4, o5, o6] := h3.set 3 d
  have h5 : Bx (((((W.setCell ⟨g, 0, none⟩ a).setCell ⟨g, 1, none⟩ b).setCell ⟨g, 2, none⟩ c).setCell ⟨g, 3, none⟩ d).setCell ⟨g, 4, none⟩ e) g #[a, b, c, d, e, o5, o6] := h4.set 4 e
  have h6 : Bx ((((((W.setCell ⟨g, 0, none⟩ a).setCell ⟨g, 1, none⟩ b).setCell ⟨g, 2, none⟩ c).setCell ⟨g, 3, none⟩ d).setCell ⟨g, 4, none⟩ e).setCell ⟨g, 5, none⟩ f) g #[a, b, c, d, e, f, o6] := h5.set 5 f
  exact h6.set 6 k
theorem keep7 {W : World} {g b : Nat} (hb : b ≠ g) (a0 a1 a2 a3 a4 a5 a6 : Value) : (((((((W.setCell ⟨g, 0, none⟩ a0).setCell ⟨g, 1, none⟩ a1).setCell ⟨g, 2, none⟩ a2).setCell ⟨g, 3, none⟩ a3).setCell ⟨g, 4, none⟩ a4).setCell ⟨g, 5, none⟩ a5).setCell ⟨g, 6, none⟩ a6).heap[b]? = W.heap[b]? := by
  iterate 7 refine (Below.heap_setCell _ _ _ b (by exact hb)).trans ?_
  rfl
theorem below7 {W w : World} {g : Nat} (h : Below g w W) (a0 a1 a2 a3 a4 a5 a6 : Value) : Below g w (((((((W.setCell ⟨g, 0, none⟩ a0).setCell ⟨g, 1, none⟩ a1).setCell ⟨g, 2, none⟩ a2).setCell ⟨g, 3, none⟩ a3).setCell ⟨g, 4, none⟩ a4).setCell ⟨g, 5, none⟩ a5).setCell ⟨g, 6, none⟩ a6) := by
  iterate 7 refine Below.setCell ?_ (by exact Nat.le_refl _) _
  exact h
end Go.Proofs.YtmhaahcbmdhinaaGreatDoor

namespace Go.Proofs.YtmhaahcbmdhinaaGreatDoor
open Go.RowKit
set_option maxRecDepth 100000
set_option linter.unusedVariables false
set_option linter.unusedSimpArgs false
def Cr.viewV (C : Cr) : Value := .agg #[.int .i64 C.role, .int .i64 C.leader, .int .i64 C.commit, .int .i64 C.round]
set_option maxHeartbeats 1600000 in
theorem view_any {fb p : Nat} {w : World} {V U : Nat → Prop} {C : Cr} {m : Mb} (h : CX fb w p V U C m) :
    Calls Tryz.prog 18 #[.pointer (some ⟨p, 0, none⟩)] w (fun e w' => e = .returned C.viewV ∧ Below w.heap.size w w') := by
  obtain ⟨W0, hW0⟩ : ∃ W0, W0 = w.alloc (.cells #[.int .i64 0, .int .i64 0, .int .i64 0, .int .i64 0] 57) := ⟨_, rfl⟩
  have hb0 : Below w.heap.size w W0 := by subst hW0; exact (Below.refl _ _).alloc (Nat.le_refl _) _
  have b0 : Bx W0 w.heap.size #[.int .i64 0, .int .i64 0, .int .i64 0, .int .i64 0] := by subst hW0; exact Bx.new _ _ _ rfl
  have hx := (h.below hb0).bx
  have c7 : W0.cell? ⟨p, 7, none⟩ = some (.int .i64 C.role) := hx.c 7
  have c8 : W0.cell? ⟨p, 8, none⟩ = some (.int .i64 C.leader) := hx.c 8
  have c9 : W0.cell? ⟨p, 9, none⟩ = some (.int .i64 C.commit) := hx.c 9
  have c10 : W0.cell? ⟨p, 10, none⟩ = some (.int .i64 C.round) := hx.c 10
  obtain ⟨r0, r1, r2, r3, f0, f1, f2, f3⟩ := b0.c4
  have HW := Lib.hid hW0
  have K := Lib.hid (And.intro hb0 b0)
  clear h hb0 b0 hW0 hx
  go_enter Tryz.func18, Tryz.ntmps18
  go_upto_region 1 with (fail)
  rw [← HW.out]
  go_wp2_with fail
  refine bodyPost_ret (by simp [results, Tryz.results18, go_sem, r0, r1, r2, r3]; rfl) rfl ?_
  exact ⟨rfl, bset4 K.out.1 (Nat.le_refl _) _ _ _ _⟩
set_option maxHeartbeats 3200000 in
theorem stored_any {fb p : Nat} {w : World} {V U : Nat → Prop} {C : Cr} {m : Mb} {k : Nat} (h : CX fb w p V U C m) (ho : C.Ok k) :
    Calls Tryz.prog 21 #[.pointer (some ⟨p, 0, none⟩)] w (StOwn w C.s) := by
  obtain ⟨W0, hW0⟩ : ∃ W0, W0 = w.alloc (.cells #[.int .i64 0, .int .i64 0, .int .i64 0, .int .i64 0, .slice none 0 0, .slice none 0 0, .slice none 0 0] 41) := ⟨_, rfl⟩
  have hb0 : Below w.heap.size w W0 := by subst hW0; exact (Below.refl _ _).alloc (Nat.le_refl _) _
  have b0 : Bx W0 w.heap.size #[.int .i64 0, .int .i64 0, .int .i64 0, .int .i64 0, .slice none 0 0, .slice none 0 0, .slice none 0 0] := by subst hW0; exact Bx.new _ _ _ rfl
  have hx := (h.below hb0)
  have hf := h.fit ho
  have how := sown_sv m.s W0 hx.at_ hf (h.lm ho.may)
  rw [h.st] at how
  have c0 : W0.cell? ⟨p, 0, none⟩ = some (.int .i64 m.s.tm) := hx.bx.c 0
  have c1 : W0.cell? ⟨p, 1, none⟩ = some (.int .i64 m.s.vt) := hx.bx.c 1
  have c2 : W0.cell? ⟨p, 2, none⟩ = some (.int .i64 m.s.b) := hx.bx.c 2
  have c3 : W0.cell? ⟨p, 3, none⟩ = some (.int .i64 m.s.t) := hx.bx.c 3
  have c4 : W0.cell? ⟨p, 4, none⟩ = some (.slice m.s.A m.s.n m.s.c) := hx.bx.c 4
  have c5 : W0.cell? ⟨p, 5, none⟩ = some (.slice m.s.C m.s.nc m.s.cc) := hx.bx.c 5
  have c6 : W0.cell? ⟨p, 6, none⟩ = some (.slice m.s.S m.s.ns m.s.cs) := hx.bx.c 6
  have HW := Lib.hid hW0
  have K := Lib.hid (And.intro hb0 b0)
  have How := Lib.hid how
  unfold Sv.val stA at How
  clear h ho hb0 b0 hW0 hx hf how
  go_enter Tryz.func21, Tryz.ntmps21
  go_upto_region 1 with (fail)
  rw [← HW.out]
  go_wp2_with fail
  refine How.out.mono ?_
  rintro e w1 ⟨s', rfl, a1, e1, hb1⟩
  have b1 := K.out.2.below hb1
  obtain ⟨r0, r1, r2, r3, r4, r5, r6⟩ := b1.c7
  have f0 := b1.f 0
  have f1 := b1.f 1
  have f2 := b1.f 2
  have f3 := b1.f 3
  have f4 := b1.f 4
  have f5 := b1.f 5
  have f6 := b1.f 6
  have A1 := Lib.hid (And.intro a1 (And.intro e1 (And.intro hb1 b1)))
  clear a1 e1 hb1 b1 c0 c1 c2 c3 c4 c5 c6
  unfold Sv.val stA
  go_wp2_with fail
  have hz0 : w.heap.size < W0.heap.size := K.out.2.lt
  obtain ⟨ty, hg⟩ := (A1.out.2.2.2.set7 (.int .i64 s'.tm) (.int .i64 s'.vt) (.int .i64 s'.b) (.int .i64 s'.t) (.slice s'.A s'.n s'.c) (.slice s'.C s'.nc s'.cc) (.slice s'.S s'.ns s'.cs)).hp
  refine bodyPost_ret (results_cell_row rfl _ _ w.heap.size _ _ (0, 0) _ rfl hg Tryz.underlying41 rfl (by kernel_rfl)) rfl ?_
  refine ⟨s', rfl, (A1.out.1.keep fun b hb _ => keep7 (by have h9 : W0.heap.size ≤ b := hb; omega) _ _ _ _ _ _ _).mono fun b hb => (by have h9 : W0.heap.size ≤ b := hb; omega : w.heap.size ≤ b), A1.out.2.1, ?_⟩
  exact K.out.1.trans ((below7 ((Below.refl w.heap.size W0).trans (A1.out.2.2.1.mono (by omega))) _ _ _ _ _ _ _))
end Go.Proofs.YtmhaahcbmdhinaaGreatDoor

namespace Go.Proofs.YtmhaahcbmdhinaaGreatDoor
open Go.RowKit
set_option maxRecDepth 100000
set_option linter.unusedVariables false
set_option linter.unusedSimpArgs false
def winB (lo hi : Int) (l : List Int) : Bool := l.all fun n => within1 lo hi n
theorem wclo_any (lo hi x : Int) (a b : Nat) (w : World) (ca : w.cell? ⟨a, 0, none⟩ = some (.int .i64 lo)) (cb : w.cell? ⟨b, 0, none⟩ = some (.int .i64 hi)) :
    Calls Tryz.prog 215 #[.int .i64 x, .pointer (some ⟨a, 0, none⟩), .pointer (some ⟨b, 0, none⟩)] w (BoolPost w (!within1 lo hi x)) := by
  by_cases h1 : x < lo
  · have h1I : decide (x < lo) = true := decide_eq_true h1
    have E := Lib.hid (show (!within1 lo hi x) = true by unfold within1; rw [decide_eq_false (by omega : ¬ lo ≤ x)]; rfl)
    clear h1
    go_enter Tryz.func215, Tryz.ntmps215
    go_wp2_with fail
    go_ret
    exact ⟨ret_bool E.out.symm, Below.refl _ _⟩
  · have h1I : decide (x < lo) = false := decide_eq_false h1
    obtain ⟨z, hz⟩ : ∃ z, decide (hi < x) = z := ⟨_, rfl⟩
    have E := Lib.hid (show (!within1 lo hi x) = z by
      rw [← hz]
      unfold within1
      rw [decide_eq_true (by omega : lo ≤ x), Bool.true_and]
      by_cases h2 : hi < x
      · rw [decide_eq_true h2, decide_eq_false (by omega : ¬ x ≤ hi)]; rfl
      · rw [decide_eq_false h2, decide_eq_true (by omega : x ≤ hi)]; rfl)
    clear h1
    go_enter Tryz.func215, Tryz.ntmps215
    go_wp2_with fail
    go_ret
    exact ⟨ret_bool E.out.symm, Below.refl _ _⟩
set_option maxHeartbeats 800000 in
theorem widx_any (lo hi : Int) (a b : Nat) (A : Option Addr) (n c : Nat) (l : List Int) (w : World) {ok : Nat → Prop} (hr : Rd w ok 1 A n (ii l)) (hn : n ≤ 1000000) (ca : w.cell? ⟨a, 0, none⟩ = some (.int .i64 lo)) (cb : w.cell? ⟨b, 0, none⟩ = some (.int .i64 hi)) :
    Calls Tryz.prog 235 #[.slice A n c, .func (.func 215) #[] #[.pointer (some ⟨a, 0, none⟩), .pointer (some ⟨b, 0, none⟩)]] w (fun e w' => ∃ k : Int, e = .returned (.int .i64 k) ∧ FirstAt (fun x : Int => !within1 lo hi x) l k ∧ Below w.heap.size w w') := by
  have hl : l.length = n := by have := hr.1; simpa [ii] using this
  have Hl := Lib.hid hl
  have hal := World.block_lt_of_cell? w _ ca
  have hbl := World.block_lt_of_cell? w _ cb
  have hclo := fun (W : World) (x : Int) (hb : Below w.heap.size w W) => wclo_any lo hi x a b W ((hb.cell (p := ⟨a, 0, none⟩) hal).trans ca) ((hb.cell (p := ⟨b, 0, none⟩) hbl).trans cb)
  have Hclo := Lib.hid hclo
  clear hl hclo ca cb hal hbl
  go_enter Tryz.func235, Tryz.ntmps235
  go_wp2_with fail
  go_loopg [5, 8] n (fun m s5 s8 wr => ∃ j : Nat, m = n - j ∧ j ≤ n ∧ s8 = .int .i64 j ∧ (∀ y ∈ l.take j, (!within1 lo hi y) = false) ∧ Below w.heap.size w wr)
  case atStart => exact ⟨0, by omega, by omega, rfl, by simp, Below.refl _ _⟩
  case round =>
    obtain ⟨j, hm, hj, rfl, hno, hb⟩ := hrel
    have Hm := Lib.hid hm
    have Hno := Lib.hid hno
    clear hm hno
    by_cases hlt : j < n
    · obtain ⟨b0, o, x, rfl, _, hbl, hx, hc0⟩ := ii_cell (hr.below hb) hlt
      have hs : l.take (j + 1) = l.take j ++ [x] := by rw [List.take_add_one, hx]; rfl
      have Hx := Lib.hid hx
      have Hs := Lib.hid hs
      have hodd := Hclo.out wr x hb
      obtain ⟨m, hm⟩ : ∃ m, m = !within1 lo hi x := ⟨_, rfl⟩
      rw [← hm] at hodd
      have Hodd := Lib.hid hodd
      have Hmm := Lib.hid hm
      clear hs hx hodd hm
      have hjn : (j : Int) < n := by omega
      rcases Bool.eq_false_or_eq_true m with hz | hz
      · subst hz
        go_wp2_with fail
        refine Hodd.out.mono ?_
        rintro e w' ⟨rfl, hb2⟩
        go_wp2_with fail
        go_ret
        exact ⟨_, rfl, .inl ⟨j, x, rfl, Hx.out, Hmm.out.symm⟩, hb.trans (hb2.mono hb.size)⟩
      · subst hz
        go_wp2_with fail
        refine Hodd.out.mono ?_
        rintro e w' ⟨rfl, hb2⟩
        go_wp2_with fail
        go_roundg (n - (j + 1))
        case measure => have := Hm.out; omega
        case rel =>
          refine ⟨j + 1, rfl, by omega, by go_num, ?_, hb.trans (hb2.mono hb.size)⟩
          intro y hy
          rw [Hs.out] at hy
          rcases List.mem_append.1 hy with hy | hy
          · exact Hno.out y hy
          · obtain rfl := List.mem_singleton.1 hy
            exact Hmm.out.symm
    · obtain rfl : j = n := by omega
      go_wp2_with fail
      go_ret
      refine ⟨_, rfl, .inr ⟨rfl, ?_⟩, hb⟩
      have := Hno.out
      rwa [List.take_of_length_le (Nat.le_of_eq Hl.out)] at this
theorem winB_no {lo hi x : Int} {l : List Int} {j : Nat} (h : l[j]? = some x) (hb : (!within1 lo hi x) = true) : winB lo hi l = false := by
  unfold winB
  rw [List.all_eq_false]
  exact ⟨x, List.mem_of_getElem? h, by simpa using hb⟩
theorem wcon_any (lo hi : Int) (a b : Nat) (A : Option Addr) (n c : Nat) (l : List Int) (w : World) {ok : Nat → Prop} (hr : Rd w ok 1 A n (ii l)) (hn : n ≤ 1000000) (ca : w.cell? ⟨a, 0, none⟩ = some (.int .i64 lo)) (cb : w.cell? ⟨b, 0, none⟩ = some (.int .i64 hi)) :
    Calls Tryz.prog 214 #[.slice A n c, .func (.func 215) #[] #[.pointer (some ⟨a, 0, none⟩), .pointer (some ⟨b, 0, none⟩)]] w (BoolPost w (!winB lo hi l)) := by
  have hidx := widx_any lo hi a b A n c l w hr hn ca cb
  have Hidx := Lib.hid hidx
  clear hidx hr ca cb
  go_enter Tryz.func214, Tryz.ntmps214
  go_wp2_with fail
  refine Hidx.out.mono ?_
  rintro e w' ⟨k, rfl, hk, hb⟩
  rcases hk with ⟨j, x, rfl, hx, hbd⟩ | ⟨rfl, hno⟩
  · have HF := Lib.hid (winB_no hx hbd)
    have Hb := Lib.hid hb
    have h0 : (0 : Int) ≤ j := by omega
    clear hx hbd hb
    go_wp2_with fail
    go_ret
    exact ⟨ret_bool (by rw [HF.out]; rfl), Hb.out⟩
  · have HF := Lib.hid (show winB lo hi l = true by unfold winB; rw [List.all_eq_true]; intro y hy; have := hno y hy; simpa using this)
    have Hb := Lib.hid hb
    clear hno hb
    go_wp2_with fail
    go_ret
    exact ⟨ret_bool (by rw [HF.out]; rfl), Hb.out⟩
set_option maxHeartbeats 800000 in
theorem within_any (lo hi : Int) (A : Option Addr) (n c : Nat) (l : List Int) (w : World) {ok : Nat → Prop} (hr : Rd w ok 1 A n (ii l)) (hn : n ≤ 1000000) :
    Calls Tryz.prog 179 #[.int .i64 lo, .int .i64 hi, .slice A n c] w (BoolPost w (winB lo hi l)) := by
  obtain ⟨W0, hW0⟩ : ∃ W0, W0 = (w.alloc (.cells #[.int .i64 lo] 3)).alloc (.cells #[.int .i64 hi] 3) := ⟨_, rfl⟩
  have b0 : Bx W0 w.heap.size #[.int .i64 lo] := by subst hW0; exact (Bx.new _ _ _ rfl).alloc _
  have b1 : Bx W0 (w.heap.size + 1) #[.int .i64 hi] := by subst hW0; exact Bx.new _ _ _ (by simp)
  have hbe : Below w.heap.size w W0 := by subst hW0; exact ((Below.refl _ _).alloc (Nat.le_refl _) _).alloc (by simp) _
  have hcon := wcon_any lo hi w.heap.size (w.heap.size + 1) A n c l W0 (hr.below hbe) hn (b0.c 0) (b1.c 0)
  obtain ⟨q, hq⟩ : ∃ q, winB lo hi l = q := ⟨_, rfl⟩
  rw [hq] at hcon ⊢
  have HW := Lib.hid hW0
  have B := Lib.hid hbe
  have Hcon := Lib.hid hcon
  clear hW0 b0 b1 hbe hcon hr hq
  go_enter Tryz.func179, Tryz.ntmps179
  go_upto_region 1 with (fail)
  rw [← HW.out]
  go_wp2_with fail
  refine Hcon.out.mono ?_
  rintro e w1 ⟨rfl, hb1⟩
  have K := Lib.hid (B.out.trans (hb1.mono B.out.size))
  clear hb1
  go_wp2_with fail
  go_ret
  exact ⟨ret_bool (by simp), K.out⟩
end Go.Proofs.YtmhaahcbmdhinaaGreatDoor

namespace Go.Proofs.YtmhaahcbmdhinaaGreatDoor
open Go.RowKit
set_option maxRecDepth 100000
set_option linter.unusedVariables false
set_option linter.unusedSimpArgs false
theorem within_lit (lo hi : Int) (l : List Int) (w : World) (k : Nat) (cs : Array Value) (hc : cs.toList = ii l) (hk : cs.size = k) (hn : k ≤ 1000000) (t : TypeId) :
    Calls Tryz.prog 179 #[.int .i64 lo, .int .i64 hi, .slice (some ⟨w.heap.size, 0, none⟩) k k] (w.alloc (.cells cs t)) (fun e w' => e = .returned (.bool (winB lo hi l)) ∧ Below w.heap.size w w') := by
  have hr : Rd (w.alloc (.cells cs t)) (w.heap.size ≤ ·) 1 (some ⟨w.heap.size, 0, none⟩) k (ii l) := by rw [← hc]; exact Rd.lit hk
  refine (within_any lo hi _ k k l _ hr hn).mono ?_
  rintro e w' ⟨rfl, hb⟩
  have h0 : Below w.heap.size w (w.alloc (.cells cs t)) := (Below.refl _ _).alloc (Nat.le_refl _) _
  exact ⟨rfl, h0.trans (hb.mono h0.size)⟩
theorem oddE_of (e : En) : oddE e = (!winB 1 1099511627776 [e.a, e.b] || !winB 0 2 [e.c] || decide (4096 < e.d.length)) := by
  unfold oddE winB
  simp only [List.all_cons, List.all_nil, Bool.and_true]
set_option maxHeartbeats 1600000 in
theorem odd_any (x : Er) (w : World) (hd : Rd w T 1 x.A x.n (bs x.d)) :
    Calls Tryz.prog 180 #[erA x] w (BoolPost w (oddE (en x))) := by
  obtain ⟨W0, hW0⟩ : ∃ W0, W0 = w.alloc (.cells #[.int .i64 x.a, .int .i64 x.b, .int .i64 x.c, .slice x.A x.n x.m] 62) := ⟨_, rfl⟩
  have b0 : Bx W0 w.heap.size #[.int .i64 x.a, .int .i64 x.b, .int .i64 x.c, .slice x.A x.n x.m] := by subst hW0; exact Bx.new _ _ _ rfl
  have hbe : Below w.heap.size w W0 := by subst hW0; exact (Below.refl _ _).alloc (Nat.le_refl _) _
  have hl := hd.blen
  have h1 := within_lit 1 1099511627776 [x.a, x.b] W0 2 #[.int .i64 x.a, .int .i64 x.b] rfl rfl (by omega) 3
  have h2 := fun W => within_lit 0 2 [x.c] W 1 #[.int .i64 x.c] rfl rfl (by omega) 3
  obtain ⟨q, hq⟩ : ∃ q, oddE (en x) = q := ⟨_, rfl⟩
  have hq' : q = (!winB 1 1099511627776 [x.a, x.b] || !winB 0 2 [x.c] || decide (4096 < x.d.length)) := by rw [← hq, oddE_of]; rfl
  obtain ⟨p1, hp1⟩ : ∃ p, winB 1 1099511627776 [x.a, x.b] = p := ⟨_, rfl⟩
  obtain ⟨p2, hp2⟩ : ∃ p, winB 0 2 [x.c] = p := ⟨_, rfl⟩
  rw [hp1] at h1
  simp only [hp2] at h2
  rw [hp1, hp2, hl] at hq'
  rw [hq]
  obtain ⟨i0, i1, i2, i3, -⟩ := b0.c4
  have HW := Lib.hid hW0
  have H1 := Lib.hid h1
  have H2 := Lib.hid h2
  have Q := Lib.hid hq'
  have B := Lib.hid (And.intro b0 hbe)
  clear hW0 b0 hbe h1 h2 hq hq' hp1 hp2 hl hd
  unfold erA
  go_enter Tryz.func180, Tryz.ntmps180
  go_upto_region 1 with (fail)
  rw [← HW.out]
  cases p1 with
  | false =>
    go_wp2_with fail
    refine H1.out.mono ?_
    rintro e w1 ⟨rfl, hb1⟩
    have K := Lib.hid (B.out.2.trans (hb1.mono B.out.2.size))
    clear hb1
    go_wp2_with fail
    go_ret
    exact ⟨ret_bool (by rw [Q.out]; rfl), K.out⟩
  | true =>
    go_wp2_with fail
    refine H1.out.mono ?_
    rintro e w1 ⟨rfl, hb1⟩
    obtain ⟨j0, j1, j2, j3, -⟩ := (B.out.1.below hb1).c4
    have K := Lib.hid (B.out.2.trans (hb1.mono B.out.2.size))
    clear i0 i1 i2 i3 hb1
    have H2' := Lib.hid (H2.out w1)
    cases p2 with
    | false =>
      go_wp2_with fail
      refine H2'.out.mono ?_
      rintro e w2 ⟨rfl, hb2⟩
      have K2 := Lib.hid (K.out.trans (hb2.mono K.out.size))
      clear hb2
      go_wp2_with fail
      go_ret
      exact ⟨ret_bool (by rw [Q.out]; rfl), K2.out⟩
    | true =>
      go_wp2_with fail
      refine H2'.out.mono ?_
      rintro e w2 ⟨rfl, hb2⟩
      have c3 := hb2.cell (p := ⟨w.heap.size, 3, none⟩) (by have := (B.out.1.lt); have := World.block_lt_of_cell? w1 _ j3; exact this)
      rw [j3] at c3
      have K2 := Lib.hid (K.out.trans (hb2.mono K.out.size))
      clear hb2 j0 j1 j2 j3
      by_cases hg : 4096 < x.n
      · have hgI : decide ((4096 : Int) < (x.n : Int)) = true := decide_eq_true (by omega)
        have QQ := Lib.hid (show q = true by rw [Q.out, decide_eq_true hg]; rfl)
        go_wp2_with fail
        go_ret
        exact ⟨ret_bool QQ.out.symm, K2.out⟩
      · have hgI : decide ((4096 : Int) < (x.n : Int)) = false := decide_eq_false (by omega)
        have QQ := Lib.hid (show q = false by rw [Q.out, decide_eq_false hg]; rfl)
        go_wp2_with fail
        go_ret
        exact ⟨ret_bool QQ.out.symm, K2.out⟩
set_option maxHeartbeats 800000 in
theorem oidx_any (A : Option Addr) (n c : Nat) (L : List Er) (w : World) {ok : Nat → Prop} (hr : Rd w ok 4 A n (flat ecell L)) (hd : Dat w L) (hn : n ≤ 1000000) :
    Calls Tryz.prog 204 #[.slice A n c, .func (.func 180) #[] #[]] w (fun e w' => ∃ k : Int, e = .returned (.int .i64 k) ∧ FirstAt (fun x : Er => oddE (en x)) L k ∧ Below w.heap.size w w') := by
  have hl := hr.flen ecell_len (by omega)
  have Hl := Lib.hid hl
  have hclo := fun (W : World) (x : Er) (hb : Below w.heap.size w W) (hx : x ∈ L) => odd_any x W ((hd x hx).1.below hb)
  have Hclo := Lib.hid hclo
  clear hl hclo hd
  go_enter Tryz.func204, Tryz.ntmps204
  go_wp2_with fail
  go_loopg [5, 8] n (fun m s5 s8 wr => ∃ j : Nat, m = n - j ∧ j ≤ n ∧ s8 = .int .i64 j ∧ (∀ y ∈ L.take j, oddE (en y) = false) ∧ Below w.heap.size w wr)
  case atStart => exact ⟨0, by omega, by omega, rfl, by simp, Below.refl _ _⟩
  case round =>
    obtain ⟨j, hm, hj, rfl, hno, hb⟩ := hrel
    have Hm := Lib.hid hm
    have Hno := Lib.hid hno
    clear hm hno
    by_cases hlt : j < n
    · obtain ⟨b, o, x, rfl, _, hbl, hx, hc0, hc1, hc2, hc3⟩ := er_cells (hr.below hb) hlt
      have hs : L.take (j + 1) = L.take j ++ [x] := by rw [List.take_add_one, hx]; rfl
      have Hx := Lib.hid hx
      have Hs := Lib.hid hs
      have hodd := Hclo.out wr x hb (List.mem_of_getElem? hx)
      unfold erA at hodd
      obtain ⟨m, hm⟩ : ∃ m, m = oddE (en x) := ⟨_, rfl⟩
      rw [← hm] at hodd
      have Hodd := Lib.hid hodd
      have Hmm := Lib.hid hm
      clear hs hx hodd hm
      have hjn : (j : Int) < n := by omega
      rcases Bool.eq_false_or_eq_true m with hz | hz
      · subst hz
        go_wp2_with fail
        refine Hodd.out.mono ?_
        rintro e w' ⟨rfl, hb2⟩
        go_wp2_with fail
        go_ret
        exact ⟨_, rfl, .inl ⟨j, x, rfl, Hx.out, Hmm.out.symm⟩, hb.trans (hb2.mono hb.size)⟩
      · subst hz
        go_wp2_with fail
        refine Hodd.out.mono ?_
        rintro e w' ⟨rfl, hb2⟩
        go_wp2_with fail
        go_roundg (n - (j + 1))
        case measure => have := Hm.out; omega
        case rel =>
          refine ⟨j + 1, rfl, by omega, by go_num, ?_, hb.trans (hb2.mono hb.size)⟩
          intro y hy
          rw [Hs.out] at hy
          rcases List.mem_append.1 hy with hy | hy
          · exact Hno.out y hy
          · obtain rfl := List.mem_singleton.1 hy
            exact Hmm.out.symm
    · obtain rfl : j = n := by omega
      go_wp2_with fail
      go_ret
      refine ⟨_, rfl, .inr ⟨rfl, ?_⟩, hb⟩
      have := Hno.out
      rwa [List.take_of_length_le (Nat.le_of_eq Hl.out)] at this
def evenL (l : List En) : Bool := l.all fun e => !oddE e
theorem evenL_no {l : List Er} {j : Nat} {x : Er} (h : l[j]? = some x) (hb : oddE (en x) = true) : evenL (l.map en) = false := by
  unfold evenL
  rw [List.all_eq_false]
  exact ⟨en x, List.mem_map_of_mem (List.mem_of_getElem? h), by rw [hb]; decide⟩
theorem ocon_any (A : Option Addr) (n c : Nat) (L : List Er) (w : World) {ok : Nat → Prop} (hr : Rd w ok 4 A n (flat ecell L)) (hd : Dat w L) (hn : n ≤ 1000000) :
    Calls Tryz.prog 156 #[.slice A n c, .func (.func 180) #[] #[]] w (BoolPost w (!evenL (L.map en))) := by
  have hidx := oidx_any A n c L w hr hd hn
  have Hidx := Lib.hid hidx
  clear hidx hr hd
  go_enter Tryz.func156, Tryz.ntmps156
  go_wp2_with fail
  refine Hidx.out.mono ?_
  rintro e w' ⟨k, rfl, hk, hb⟩
  rcases hk with ⟨j, x, rfl, hx, hbd⟩ | ⟨rfl, hno⟩
  · have HF := Lib.hid (evenL_no hx hbd)
    have Hb := Lib.hid hb
    have h0 : (0 : Int) ≤ j := by omega
    clear hx hbd hb
    go_wp2_with fail
    go_ret
    exact ⟨ret_bool (by rw [HF.out]; rfl), Hb.out⟩
  · have HF := Lib.hid (show evenL (L.map en) = true by
      unfold evenL
      rw [List.all_eq_true]
      intro y hy
      obtain ⟨z, hz, rfl⟩ := List.mem_map.1 hy
      rw [show oddE (en z) = false from hno z hz]
      rfl)
    have Hb := Lib.hid hb
    clear hno hb
    go_wp2_with fail
    go_ret
    exact ⟨ret_bool (by rw [HF.out]; rfl), Hb.out⟩
end Go.Proofs.YtmhaahcbmdhinaaGreatDoor

