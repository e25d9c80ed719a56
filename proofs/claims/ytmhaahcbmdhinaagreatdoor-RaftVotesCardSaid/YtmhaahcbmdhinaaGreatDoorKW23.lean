/- Walk: (*raft.Core).may. (Printed by mkc14.py.)
   Walk: (*raft.Core).stand. (Printed by mkc15.py.)
   Walk: (*raft.Core).Tick.
   Walk: slices.Equal of members. (Cut by mkq.py.)
   Walk: (*raft.Core).change. (Printed by mkc17.py.) -/
import Derived.Test.YtmhaahcbmdhinaaGreatDoorKW22
import Derived.Deep.DeepCutAuto
import Derived.Test.YtmhaahcbmdhinaaGreatDoorKW10
import Derived.Test.YtmhaahcbmdhinaaGreatDoorKW11
namespace Go.Proofs.YtmhaahcbmdhinaaGreatDoor
open Go.RowKit
set_option maxRecDepth 100000
set_option linter.unusedVariables false
set_option linter.unusedSimpArgs false
set_option maxHeartbeats 12800000 in
theorem cmayC_any {fb p : Nat} {w : World} {V U : Nat → Prop} {C : Cr} {m : Mb} {k : Nat} (h : CX fb w p V U C m) (ho : C.Ok k) (he : Env fb w) :
    Calls Tryz.prog 51 #[.pointer (some ⟨p, 0, none⟩)] w (BoolPost w C.may) := by
  have hf := h.fit ho
  have hmb := members_any h.drew hf ho.may he.drew.ev
  have hln := (cmay_iff.1 (members_may ho.may)).2.2.2
  have F : ∀ W, Below w.heap.size w W → W.cell? ⟨p, 11, none⟩ = some (.int .i64 C.id) := fun W hb => (h.below hb).bx.c 11
  have hcl := fun W (hb : Below w.heap.size w W) => clast_any (h.below hb) hf ho.may
  have hme := fun W (hb : Below w.heap.size w W) => member_any p C.last m.s.A m.s.n m.s.c m.s.L W ((h.below hb).bx.c 4) (h.below hb).at_.l hf.z.1
  have hup := fun ix W (hb : Below w.heap.size w W) => upto_any ix (h.below hb) hf (he.new hb).ev
  have hul := fun ix => (cmay_iff.1 (upto_may ho.may ix)).2.2.2
  have c9 : ∀ W, Below w.heap.size w W → W.cell? ⟨p, 9, none⟩ = some (.int .i64 C.commit) := fun W hb => (h.below hb).bx.c 9
  have hq : memE C.s.l C.last = (m.s.L.reverse.find? (mch C.last)).map en := by
    obtain ⟨_, _, _, _, k5, _⟩ := h.s_eq
    rw [← k5, memE_er]
  obtain ⟨q, hqe⟩ : ∃ q, m.s.L.reverse.find? (mch C.last) = q := ⟨_, rfl⟩
  have hxi : ∀ x, q = some x → I64 x.a ∧ 1 ≤ x.a := fun x hx => by
    have hm : x ∈ m.s.L := List.mem_reverse.1 (List.mem_of_find?_eq_some (hqe.trans hx))
    refine ⟨(hf.w x hm).1.1, ?_⟩
    have hm2 : en x ∈ C.s.l := by rw [← h.s_eq.2.2.2.2.1]; exact List.mem_map_of_mem hm
    exact ((St.may_iff ho.may).2.2.2.2.1 _ hm2).1
  rw [hqe] at hq
  obtain ⟨hs, hse⟩ : ∃ b, hasC C.members C.id = b := ⟨_, rfl⟩
  have hmay : C.may = (hs || (q.map en).any fun e => decide (C.commit < e.a) && hasC (C.upto (e.a - 1)) C.id) := by unfold Cr.may; rw [hse, hq]
  have hse' : (cmay C.members && decide (C.id ∈ C.members)) = hs := hse
  have FF := Lib.hid F
  have Hmb := Lib.hid hmb
  have H := Lib.hid (And.intro hln (And.intro hcl (And.intro hme (And.intro hup (And.intro hul (And.intro c9 (And.intro hqe (And.intro hxi (And.intro hmay hse')))))))))
  clear h ho he hf hmb hln F hcl hme hup hul c9 hq hqe hxi hmay hse hse'
  go_enter Tryz.func51, Tryz.ntmps51
  go_upto_region 1 with (fail)
  refine wp_region_S 6 (fun W => Below w.heap.size w W) (.take 0 (.take 2 (.take 3 (.take 4 (.take 5 (.one 1 (.one 6 (.nil)))))))) (by kernel_rfl) (Below.refl _ _).drew (fun _ _ _ _ h => h) (fun hS => ?_)
  repeat (first
    | (refine wpS_take (v := ?_) rfl rfl (by rfl) ?_ ?_; rotate_left; (intro W hW; have hf := FF.out W hW; go_split_ands; go_simp; try with_reducible rfl); try simp only [Act.put, List.setIfInBounds_toArray, List.set_cons_zero, List.set_cons_succ])
    | (refine wpS_skip rfl rfl (by rfl) ?_; try simp only [Act.put, List.setIfInBounds_toArray, List.set_cons_zero, List.set_cons_succ]))
  refine wpS_one rfl (by rfl) (fun K hK => ?_)
  go_simp
  go_at_call 62
  refine (Hmb.out).mono ?_
  intro e w1 h1
  obtain ⟨A1, n1, c1, rfl, o1, hb1⟩ := h1
  have hS1 : Below w.heap.size w w1 := (Below.refl _ _).drew.trans hb1
  have hn1 : n1 ≤ 7 := by have := ii_len (Rd.of_own o1); have := H.out.1; omega
  have hhas := hasM_any A1 n1 c1 C.members C.id w1 (Rd.of_own o1) (by omega)
  rw [H.out.2.2.2.2.2.2.2.2.2] at hhas
  have Hhas := Lib.hid hhas
  clear o1 hb1 hhas
  refine hK (fun W => Below w.heap.size w W) _ _ (fun _ h => h) hS1 ?_
  clear hK K
  try simp only [Act.put, List.setIfInBounds_toArray, List.set_cons_zero, List.set_cons_succ]
  refine wpS_last rfl (by rfl) (fun K hK => ?_)
  go_simp
  go_at_call 109
  refine Hhas.out.mono ?_
  rintro e w2 ⟨rfl, rfl⟩
  refine hK _ _ ?_
  clear hK K
  try simp only [Act.put, List.setIfInBounds_toArray, List.set_cons_zero, List.set_cons_succ]
  refine wpS_nil ?_
  clear hS
  have S1 := Lib.hid hS1
  cases hs
  · go_wp2_with fail
    refine (H.out.2.1 _ hS1).mono ?_
    rintro e w3 ⟨rfl, hb3⟩
    have hS3 : Below w.heap.size w w3 := hS1.trans (hb3.mono hS1.size)
    clear hb3 hS1
    go_wp2_with fail
    refine (H.out.2.2.1 _ hS3).mono ?_
    rintro e w4 ⟨hb4, hm4⟩
    rw [H.out.2.2.2.2.2.2.1] at hm4
    have hS4 : Below w.heap.size w w4 := hS3.trans (hb4.mono hS3.size)
    have S4 := Lib.hid hS4
    clear hb4 hS3
    cases q with
    | none =>
      obtain rfl := hm4
      have F4 := Lib.hid (fun W (hb : Below w4.heap.size w4 W) => And.intro (FF.out W (S4.out.trans (hb.mono S4.out.size))) (H.out.2.2.2.2.2.1 W (S4.out.trans (hb.mono S4.out.size))))
      go_upto_region 4 with (fail)
      refine wp_region_S 28 (fun W => Below w4.heap.size w4 W) (.take 0 (.take 1 (.take 2 (.take 3 (.take 4 (.take 5 (.take 6 (.take 7 (.take 8 (.take 9 (.take 10 (.take 11 (.take 12 (.take 13 (.take 14 (.take 15 (.take 16 (.take 17 (.take 18 (.take 19 (.take 20 (.take 22 (.take 23 (.take 24 (.take 25 (.one 21 (.one 26 (.take 27 (.one 28 (.nil)))))))))))))))))))))))))))))) (by kernel_rfl) (Below.refl _ _).drew (fun _ _ _ _ h => h) (fun hS => ?_)
      repeat (first
        | (refine wpS_take (v := ?_) rfl rfl (by rfl) ?_ ?_; rotate_left; (intro W hW; have hf := F4.out W hW; go_split_ands; go_simp; try with_reducible rfl); try simp only [Act.put, List.setIfInBounds_toArray, List.set_cons_zero, List.set_cons_succ])
        | (refine wpS_skip rfl rfl (by rfl) ?_; try simp only [Act.put, List.setIfInBounds_toArray, List.set_cons_zero, List.set_cons_succ]))
      refine wpS_pass rfl rfl (by rfl) ?_
      try simp only [Act.put, List.setIfInBounds_toArray, List.set_cons_zero, List.set_cons_succ]
      refine wpS_pass rfl rfl (by rfl) ?_
      try simp only [Act.put, List.setIfInBounds_toArray, List.set_cons_zero, List.set_cons_succ]
      repeat (first
        | (refine wpS_take (v := ?_) rfl rfl (by rfl) ?_ ?_; rotate_left; (intro W hW; have hf := F4.out W hW; go_split_ands; go_simp; try with_reducible rfl); try simp only [Act.put, List.setIfInBounds_toArray, List.set_cons_zero, List.set_cons_succ])
        | (refine wpS_skip rfl rfl (by rfl) ?_; try simp only [Act.put, List.setIfInBounds_toArray, List.set_cons_zero, List.set_cons_succ]))
      refine wpS_last rfl (by rfl) (fun K hK => ?_)
      go_simp
      refine hK _ _ ?_
      clear hK K
      try simp only [Act.put, List.setIfInBounds_toArray, List.set_cons_zero, List.set_cons_succ]
      refine wpS_nil ?_
      go_wp2_with fail
      go_ret
      refine ⟨?_, S4.out.drew⟩
      rw [H.out.2.2.2.2.2.2.2.2.1]
      rfl
    | some x =>
      obtain ⟨B, rfl, hB, bB⟩ := hm4
      obtain ⟨hxi, hx1⟩ := H.out.2.2.2.2.2.2.2.1 x rfl
      have F4 := Lib.hid (fun W (hb : Below w4.heap.size w4 W) => And.intro (FF.out W (S4.out.trans (hb.mono S4.out.size))) (And.intro (H.out.2.2.2.2.2.1 W (S4.out.trans (hb.mono S4.out.size))) ((bB.below hb).c 0)))
      clear bB
      have wx : IntKind.i64.wrap (x.a - 1) = x.a - 1 := by rw [IntKind.wrap_i64]; unfold I64 at hxi; omega
      clear hxi hx1
      by_cases hx : C.commit < x.a
      · have hx' : decide (C.commit < x.a) = true := decide_eq_true hx
        go_upto_region 4 with (fail)
        refine wp_region_S 28 (fun W => Below w4.heap.size w4 W) (.take 0 (.take 1 (.take 2 (.take 3 (.take 4 (.take 5 (.take 6 (.take 7 (.take 8 (.take 9 (.take 10 (.take 11 (.take 12 (.take 13 (.take 14 (.take 15 (.take 16 (.take 17 (.take 18 (.take 19 (.take 20 (.take 22 (.take 23 (.take 24 (.take 25 (.one 21 (.one 26 (.take 27 (.one 28 (.nil)))))))))))))))))))))))))))))) (by kernel_rfl) (Below.refl _ _).drew (fun _ _ _ _ h => h) (fun hS => ?_)
        repeat (first
          | (refine wpS_take (v := ?_) rfl rfl (by rfl) ?_ ?_; rotate_left; (intro W hW; have hf := F4.out W hW; go_split_ands; go_simp; try with_reducible rfl); try simp only [Act.put, List.setIfInBounds_toArray, List.set_cons_zero, List.set_cons_succ])
          | (refine wpS_skip rfl rfl (by rfl) ?_; try simp only [Act.put, List.setIfInBounds_toArray, List.set_cons_zero, List.set_cons_succ]))
        refine wpS_one rfl (by rfl) (fun K hK => ?_)
        go_simp
        go_at_call 111
        refine (H.out.2.2.2.1 (x.a - 1) _ S4.out.drew).mono ?_
        intro e w5 h5
        obtain ⟨A5, n5, c5, rfl, o5, hb5⟩ := h5
        have hS5 : Below w4.heap.size w4 w5 := (Below.refl _ _).drew.trans hb5
        have hn5 : n5 ≤ 7 := by have := ii_len (Rd.of_own o5); have := H.out.2.2.2.2.1 (x.a - 1); omega
        have Hhas5 := Lib.hid (hasM_any A5 n5 c5 (C.upto (x.a - 1)) C.id w5 (Rd.of_own o5) (by omega))
        clear o5 hb5
        refine hK (fun W => Below w4.heap.size w4 W) _ _ (fun _ h => h) hS5 ?_
        clear hK K
        try simp only [Act.put, List.setIfInBounds_toArray, List.set_cons_zero, List.set_cons_succ]
        refine wpS_one rfl (by rfl) (fun K hK => ?_)
        go_simp
        go_at_call 109
        refine (Hhas5.out).mono ?_
        rintro e w6 ⟨rfl, rfl⟩
        refine hK (fun W => Below w4.heap.size w4 W) _ _ (fun _ h => h) hS5 ?_
        clear hK K
        try simp only [Act.put, List.setIfInBounds_toArray, List.set_cons_zero, List.set_cons_succ]
        repeat (first
          | (refine wpS_take (v := ?_) rfl rfl (by rfl) ?_ ?_; rotate_left; (intro W hW; have hf := F4.out W hW; go_split_ands; go_simp; try with_reducible rfl); try simp only [Act.put, List.setIfInBounds_toArray, List.set_cons_zero, List.set_cons_succ])
          | (refine wpS_skip rfl rfl (by rfl) ?_; try simp only [Act.put, List.setIfInBounds_toArray, List.set_cons_zero, List.set_cons_succ]))
        refine wpS_last rfl (by rfl) (fun K hK => ?_)
        go_simp
        refine hK _ _ ?_
        clear hK K
        try simp only [Act.put, List.setIfInBounds_toArray, List.set_cons_zero, List.set_cons_succ]
        refine wpS_nil ?_
        go_wp2_with fail
        go_ret
        refine ⟨?_, S4.out.trans (hS5.mono S4.out.size)⟩
        rw [H.out.2.2.2.2.2.2.2.2.1]
        show _ = Ending.returned (.bool (false || (decide (C.commit < x.a) && hasC (C.upto (x.a - 1)) C.id)))
        rw [hx']
        rfl
      · have hx' : decide (C.commit < x.a) = false := decide_eq_false hx
        go_upto_region 4 with (fail)
        refine wp_region_S 28 (fun W => Below w4.heap.size w4 W) (.take 0 (.take 1 (.take 2 (.take 3 (.take 4 (.take 5 (.take 6 (.take 7 (.take 8 (.take 9 (.take 10 (.take 11 (.take 12 (.take 13 (.take 14 (.take 15 (.take 16 (.take 17 (.take 18 (.take 19 (.take 20 (.take 22 (.take 23 (.take 24 (.take 25 (.one 21 (.one 26 (.take 27 (.one 28 (.nil)))))))))))))))))))))))))))))) (by kernel_rfl) (Below.refl _ _).drew (fun _ _ _ _ h => h) (fun hS => ?_)
        repeat (first
          | (refine wpS_take (v := ?_) rfl rfl (by rfl) ?_ ?_; rotate_left; (intro W hW; have hf := F4.out W hW; go_split_ands; go_simp; try with_reducible rfl); try simp only [Act.put, List.setIfInBounds_toArray, List.set_cons_zero, List.set_cons_succ])
          | (refine wpS_skip rfl rfl (by rfl) ?_; try simp only [Act.put, List.setIfInBounds_toArray, List.set_cons_zero, List.set_cons_succ]))
        refine wpS_pass rfl rfl (by rfl) ?_
        try simp only [Act.put, List.setIfInBounds_toArray, List.set_cons_zero, List.set_cons_succ]
        refine wpS_pass rfl rfl (by rfl) ?_
        try simp only [Act.put, List.setIfInBounds_toArray, List.set_cons_zero, List.set_cons_succ]
        repeat (first
          | (refine wpS_take (v := ?_) rfl rfl (by rfl) ?_ ?_; rotate_left; (intro W hW; have hf := F4.out W hW; go_split_ands; go_simp; try with_reducible rfl); try simp only [Act.put, List.setIfInBounds_toArray, List.set_cons_zero, List.set_cons_succ])
          | (refine wpS_skip rfl rfl (by rfl) ?_; try simp only [Act.put, List.setIfInBounds_toArray, List.set_cons_zero, List.set_cons_succ]))
        refine wpS_last rfl (by rfl) (fun K hK => ?_)
        go_simp
        refine hK _ _ ?_
        clear hK K
        try simp only [Act.put, List.setIfInBounds_toArray, List.set_cons_zero, List.set_cons_succ]
        refine wpS_nil ?_
        go_wp2_with fail
        go_ret
        refine ⟨?_, S4.out.drew⟩
        rw [H.out.2.2.2.2.2.2.2.2.1]
        show _ = Ending.returned (.bool (false || (decide (C.commit < x.a) && hasC (C.upto (x.a - 1)) C.id)))
        rw [hx']
        rfl
  · go_wp2_with fail
    go_ret
    refine ⟨?_, S1.out⟩
    rw [H.out.2.2.2.2.2.2.2.2.1]
    rfl
end Go.Proofs.YtmhaahcbmdhinaaGreatDoor

namespace Go.Proofs.YtmhaahcbmdhinaaGreatDoor
open Go.RowKit
set_option maxRecDepth 100000
set_option linter.unusedVariables false
set_option linter.unusedSimpArgs false
def Mb.stood (m : Mb) (C : Cr) (g : Nat) : Mb := { m with s := { m.s with tm := C.s.tm + 1, vt := C.id }, V := some ⟨g, 0, none⟩, nv := 1, cv := 1 }
def Cr.stood (C : Cr) : Cr := { C with s := { C.s with tm := C.s.tm + 1, vt := C.id }, role := 1, leader := 0, votes := [C.id] }
theorem CX.stoodAt {fb p : Nat} {w W : World} {V U : Nat → Prop} {C : Cr} {m : Mb} {g : Nat} (h : CX fb w p V U C m) (hb : Bx W p ((m.stood C g).cells C.stood)) (hg : W.heap[g]? = some (.cells #[.int .i64 C.id] 3)) (hgl : w.heap.size ≤ g) (hk : ∀ b, b < w.heap.size → b ≠ p → W.heap[b]? = w.heap[b]?) (hz : W.heap.size = w.heap.size + 1) (ho : W.os = w.os ∧ W.tape = w.tape ∧ W.output = w.output) (hfb : fb ≤ w.heap.size) :
    CTo fb w p V U C.stood W (fun b => V b ∨ b = g) (fun b => U b ∨ b = g) (m.stood C g) := by
  have hgz : g < W.heap.size := (Array.getElem?_eq_some_iff.1 hg).1
  obtain rfl : g = w.heap.size := by omega
  have hpl := h.bx.lt
  have hup : U p := h.vu p h.vp
  have hkn : ∀ b, ¬ (U b ∨ b = w.heap.size) → b < w.heap.size → W.heap[b]? = w.heap[b]? := fun b hb hl => hk b hl fun e => hb (.inl (e ▸ hup))
  have hlt := h.at_.lt
  have hh := h.hv.lt (by omega)
  have hmo : ∀ b, ¬ U b ∧ b < w.heap.size → ¬ (U b ∨ b = w.heap.size) := fun b hb h2 => h2.elim hb.1 fun e => by have := hb.2; omega
  refine ⟨⟨hb, h.pm.keep (hk _ h.pm.lt h.qp), .inl h.vp, .inl h.vq, h.qp, fun g hg => ?_, fun b hb => hb.imp (h.vu b) id, fun b hb => hb.elim (h.vf b) fun e => by omega, fun b hb => ?_, ?_, ?_, ?_, ?_, h.hk⟩, fun b hb => hb.imp id fun e => by omega, fun b hb => .inl hb, fun b hb => hb.imp id fun e => by omega, ho.1, ho.2.1, ho.2.2, by omega, fun b hl hb => hk b hl fun e => hb (e ▸ h.vp)⟩
  · injection hg with hg
    subst hg
    exact ⟨.inr rfl, by show w.heap.size ≠ p; omega, fun e => by have := h.pm.lt; have e2 : w.heap.size = m.q := e; omega⟩
  · rcases hb with hb | rfl
    · have := h.ul b hb; omega
    · omega
  · exact ⟨rfl, .inr ⟨w.heap.size, 1, #[.int .i64 C.id], rfl, Nat.zero_le _, hg, Nat.le_refl _, by simp [maxLen], rfl, rfl⟩⟩
  · have ha := (hlt.mono hmo).keep hkn
    exact ⟨ha.l, ha.d, ha.cf, ha.sn, ha.k1, ha.k2, ha.k3⟩
  · have := h.st
    unfold Mb.stood Cr.stood Sv.st
    dsimp only
    rw [← this]
    rfl
  · exact (hh.mono hmo).keep hkn
theorem Cr.Ok.stood' {C : Cr} {k : Nat} (h : C.Ok k) (ht : C.s.tm < 1099511627776) (draw : Int) : (C.stood.draws draw).Ok k := h.stood ht draw
theorem stand_eq (C : Cr) (draw : Int) : C.stand draw = if quor (C.stood.draws draw).members (C.stood.draws draw).votes = true then (C.stood.draws draw).lead else (C.stood.draws draw, (C.stood.draws draw).others.map fun w => { (C.stood.draws draw).say 1 w with ix := lstA (C.stood.draws draw).s.b (C.stood.draws draw).s.l, lt := lstB (C.stood.draws draw).s.t (C.stood.draws draw).s.l }) := rfl
theorem heap_set_ne {W : World} {p i : Nat} {v : Value} {b : Nat} (h : b ≠ p) : (W.setCell ⟨p, i, none⟩ v).heap[b]? = W.heap[b]? := Below.heap_setCell _ _ _ b h
theorem size_set (W : World) (a : Addr) (v : Value) : (W.setCell a v).heap.size = W.heap.size := by simp [World.setCell]
set_option maxHeartbeats 25600000 in
theorem stand_any {fb p : Nat} {w : World} {V U : Nat → Prop} {C : Cr} {m : Mb} {k : Nat} (draw : Int) (h : CX fb w p V U C m) (ho : C.Ok k) (he : Env fb w) (ht : C.s.tm < 1099511627776) :
    Calls Tryz.prog 52 #[.pointer (some ⟨p, 0, none⟩), .int .i64 draw] w (OutPost fb w p V U (C.stand draw)) := by
  obtain ⟨W1, hW1⟩ : ∃ W1, W1 = w.setCell ⟨p, 0, none⟩ (.int .i64 (C.s.tm + 1)) := ⟨_, rfl⟩
  have ht0 := (St.may_iff ho.may).2.2.2.2.2.1
  have wt : IntKind.i64.wrap (C.s.tm + 1) = C.s.tm + 1 := by rw [IntKind.wrap_i64]; omega
  have x1 : Bx W1 p ((m.cells C).setIfInBounds 0 (.int .i64 (C.s.tm + 1))) := by subst hW1; exact h.bx.set 0 _
  have hk1 : ∀ b, b ≠ p → W1.heap[b]? = w.heap[b]? := fun b hb => by subst hW1; exact heap_set_ne hb
  have hz1 : W1.heap.size = w.heap.size := by subst hW1; exact size_set _ _ _
  have ho1 : W1.os = w.os ∧ W1.tape = w.tape ∧ W1.output = w.output := by subst hW1; exact ⟨rfl, rfl, rfl⟩
  have c0 : w.cell? ⟨p, 0, none⟩ = some (.int .i64 C.s.tm) := by rw [← h.s_eq.1]; exact h.bx.c 0
  have f0 := h.bx.f 0
  have HW := Lib.hid hW1
  have H := Lib.hid (And.intro h (And.intro ho (And.intro he ht)))
  have K1 := Lib.hid (And.intro x1 (And.intro hk1 (And.intro hz1 ho1)))
  clear h ho he ht ht0 x1 hk1 hz1 ho1 hW1
  go_enter Tryz.func52, Tryz.ntmps52
  go_upto_region 2 with (fail)
  rw [← HW.out]
  clear c0 f0 wt
  go_cut [] (fun W => ∃ g, CTo fb w p V U C.stood W (fun b => V b ∨ b = g) (fun b => U b ∨ b = g) (m.stood C g))
  case first =>
    have FF : Hid (∀ W, (∃ cs, Bx W p cs ∧ cs[11]? = some (.int .i64 C.id)) → W.cell? ⟨p, 11, none⟩ = some (.int .i64 C.id)) := Lib.hid fun W hW => by
      obtain ⟨cs, h1, h2⟩ := hW
      rw [h1.c 11, h2]
    refine wp_region_S 27 (fun W => ∃ cs, Bx W p cs ∧ cs[11]? = some (.int .i64 C.id)) (.take 0 (.take 1 (.take 2 (.take 3 (.take 4 (.take 5 (.take 6 (.take 7 (.take 8 (.take 9 (.take 10 (.take 11 (.take 13 (.take 14 (.take 15 (.two 12 16 (.one 16 (.take 17 (.take 18 (.take 19 (.one 20 (.take 21 (.take 22 (.take 23 (.one 24 (.take 25 (.take 26 (.one 27 (.nil))))))))))))) (.take 17 (.take 18 (.take 19 (.two 12 20 (.one 20 (.take 21 (.take 22 (.take 23 (.one 24 (.take 25 (.take 26 (.one 27 (.nil))))))))) (.take 21 (.take 22 (.take 23 (.two 12 24 (.one 24 (.take 25 (.take 26 (.one 27 (.nil))))) (.one 12 (.take 25 (.take 26 (.one 27 (.nil))))))))))))))))))))))))))))) (by kernel_rfl) ⟨_, K1.out.1.drew, rfl⟩ (fun _ _ _ _ h => h) (fun hS => ?_)
    repeat (first
      | (refine wpS_take (v := ?_) rfl rfl (by rfl) ?_ ?_; rotate_left; (intro W hW; have hf := FF.out W hW; go_split_ands; go_simp; try with_reducible rfl); try simp only [Act.put, List.setIfInBounds_toArray, List.set_cons_zero, List.set_cons_succ])
      | (refine wpS_skip rfl rfl (by rfl) ?_; try simp only [Act.put, List.setIfInBounds_toArray, List.set_cons_zero, List.set_cons_succ]))
    refine wpS_two rfl rfl (by rfl) (by rfl) (fun K hK => ?_) (fun K hK => ?_)
    · go_simp
      obtain ⟨v1, hv1⟩ : ∃ v, v = ((World.alloc W1 (.cells #[.int .i64 C.id] 3))).drew := ⟨_, rfl⟩
      have x1 := (K1.out.1.alloc (.cells #[.int .i64 C.id] 3)).drew
      rw [← hv1] at x1 ⊢
      have zz1 := K1.out.2.2.1
      try rw [zz1]
      have k1 : ∀ b, b < w.heap.size → b ≠ p → v1.heap[b]? = w.heap[b]? := fun b hl hb => by subst hv1; exact (Below.heap_alloc _ _ _ (by rw [zz1]; exact hl)).trans ((fun b (_ : b < w.heap.size) hb => K1.out.2.1 b hb) b hl hb)
      have z1 : v1.heap.size = w.heap.size + 1 := by subst hv1; simp [World.drew]; exact K1.out.2.2.1
      have o1 : v1.os = w.os ∧ v1.tape = w.tape ∧ v1.output = w.output := by subst hv1; exact K1.out.2.2.2
      have g1 : v1.heap[w.heap.size]? = some (.cells #[.int .i64 C.id] 3) := by subst hv1; have e := heap_alloc_new W1 (.cells #[.int .i64 C.id] 3); rw [zz1] at e; exact e
      clear hv1 zz1
      have A1 := Lib.hid (And.intro x1 (And.intro k1 (And.intro z1 (And.intro o1 g1))))
      clear x1 k1 z1 o1 g1
      refine hK (fun W => ∃ cs, Bx W p cs ∧ cs[11]? = some (.int .i64 C.id)) _ _ (fun _ h => h) ⟨_, A1.out.1, rfl⟩ ?_
      clear hK K
      try simp only [Act.put, List.setIfInBounds_toArray, List.set_cons_zero, List.set_cons_succ]
      repeat (first
        | (refine wpS_take (v := ?_) rfl rfl (by rfl) ?_ ?_; rotate_left; (intro W hW; have hf := FF.out W hW; go_split_ands; go_simp; try with_reducible rfl); try simp only [Act.put, List.setIfInBounds_toArray, List.set_cons_zero, List.set_cons_succ])
        | (refine wpS_skip rfl rfl (by rfl) ?_; try simp only [Act.put, List.setIfInBounds_toArray, List.set_cons_zero, List.set_cons_succ]))
      refine wpS_one rfl (by rfl) (fun K hK => ?_)
      have q2 : World.cell? v1 ⟨p, 1, none⟩ = some (.int .i64 m.s.vt) := A1.out.1.c 1
      have f2 : World.frozen? v1 ⟨p, 1, none⟩ = false := A1.out.1.f 1
      go_simp
      obtain ⟨v2, hv2⟩ : ∃ v, v = ((World.setCell v1 ⟨p, 1, none⟩ (.int .i64 C.id))) := ⟨_, rfl⟩
      have x2 := (A1.out.1.set 1 (.int .i64 C.id))
      rw [← hv2] at x2 ⊢
      have k2 : ∀ b, b < w.heap.size → b ≠ p → v2.heap[b]? = w.heap[b]? := fun b hl hb => by subst hv2; exact (heap_set_ne hb).trans (A1.out.2.1 b hl hb)
      have z2 : v2.heap.size = w.heap.size + 1 := by subst hv2; exact (size_set _ _ _).trans A1.out.2.2.1
      have o2 : v2.os = w.os ∧ v2.tape = w.tape ∧ v2.output = w.output := by subst hv2; exact A1.out.2.2.2.1
      have g2 : v2.heap[w.heap.size]? = some (.cells #[.int .i64 C.id] 3) := by subst hv2; exact (heap_set_ne (by have := H.out.1.bx.lt; omega)).trans A1.out.2.2.2.2
      clear q2 f2 hv2
      have A2 := Lib.hid (And.intro x2 (And.intro k2 (And.intro z2 (And.intro o2 g2))))
      clear x2 k2 z2 o2 g2
      refine hK (fun W => ∃ cs, Bx W p cs ∧ cs[11]? = some (.int .i64 C.id)) _ _ (fun _ h => h) ⟨_, A2.out.1, rfl⟩ ?_
      clear hK K
      try simp only [Act.put, List.setIfInBounds_toArray, List.set_cons_zero, List.set_cons_succ]
      repeat (first
        | (refine wpS_take (v := ?_) rfl rfl (by rfl) ?_ ?_; rotate_left; (intro W hW; have hf := FF.out W hW; go_split_ands; go_simp; try with_reducible rfl); try simp only [Act.put, List.setIfInBounds_toArray, List.set_cons_zero, List.set_cons_succ])
        | (refine wpS_skip rfl rfl (by rfl) ?_; try simp only [Act.put, List.setIfInBounds_toArray, List.set_cons_zero, List.set_cons_succ]))
      refine wpS_one rfl (by rfl) (fun K hK => ?_)
      have q3 : World.cell? v2 ⟨p, 7, none⟩ = some (.int .i64 C.role) := A2.out.1.c 7
      have f3 : World.frozen? v2 ⟨p, 7, none⟩ = false := A2.out.1.f 7
      go_simp
      obtain ⟨v3, hv3⟩ : ∃ v, v = ((World.setCell v2 ⟨p, 7, none⟩ (.int .i64 1))) := ⟨_, rfl⟩
      have x3 := (A2.out.1.set 7 (.int .i64 1))
      rw [← hv3] at x3 ⊢
      have k3 : ∀ b, b < w.heap.size → b ≠ p → v3.heap[b]? = w.heap[b]? := fun b hl hb => by subst hv3; exact (heap_set_ne hb).trans (A2.out.2.1 b hl hb)
      have z3 : v3.heap.size = w.heap.size + 1 := by subst hv3; exact (size_set _ _ _).trans A2.out.2.2.1
      have o3 : v3.os = w.os ∧ v3.tape = w.tape ∧ v3.output = w.output := by subst hv3; exact A2.out.2.2.2.1
      have g3 : v3.heap[w.heap.size]? = some (.cells #[.int .i64 C.id] 3) := by subst hv3; exact (heap_set_ne (by have := H.out.1.bx.lt; omega)).trans A2.out.2.2.2.2
      clear q3 f3 hv3
      have A3 := Lib.hid (And.intro x3 (And.intro k3 (And.intro z3 (And.intro o3 g3))))
      clear x3 k3 z3 o3 g3
      refine hK (fun W => ∃ cs, Bx W p cs ∧ cs[11]? = some (.int .i64 C.id)) _ _ (fun _ h => h) ⟨_, A3.out.1, rfl⟩ ?_
      clear hK K
      try simp only [Act.put, List.setIfInBounds_toArray, List.set_cons_zero, List.set_cons_succ]
      repeat (first
        | (refine wpS_take (v := ?_) rfl rfl (by rfl) ?_ ?_; rotate_left; (intro W hW; have hf := FF.out W hW; go_split_ands; go_simp; try with_reducible rfl); try simp only [Act.put, List.setIfInBounds_toArray, List.set_cons_zero, List.set_cons_succ])
        | (refine wpS_skip rfl rfl (by rfl) ?_; try simp only [Act.put, List.setIfInBounds_toArray, List.set_cons_zero, List.set_cons_succ]))
      refine wpS_one rfl (by rfl) (fun K hK => ?_)
      have q4 : World.cell? v3 ⟨p, 8, none⟩ = some (.int .i64 C.leader) := A3.out.1.c 8
      have f4 : World.frozen? v3 ⟨p, 8, none⟩ = false := A3.out.1.f 8
      go_simp
      obtain ⟨v4, hv4⟩ : ∃ v, v = ((World.setCell v3 ⟨p, 8, none⟩ (.int .i64 0))) := ⟨_, rfl⟩
      have x4 := (A3.out.1.set 8 (.int .i64 0))
      rw [← hv4] at x4 ⊢
      have k4 : ∀ b, b < w.heap.size → b ≠ p → v4.heap[b]? = w.heap[b]? := fun b hl hb => by subst hv4; exact (heap_set_ne hb).trans (A3.out.2.1 b hl hb)
      have z4 : v4.heap.size = w.heap.size + 1 := by subst hv4; exact (size_set _ _ _).trans A3.out.2.2.1
      have o4 : v4.os = w.os ∧ v4.tape = w.tape ∧ v4.output = w.output := by subst hv4; exact A3.out.2.2.2.1
      have g4 : v4.heap[w.heap.size]? = some (.cells #[.int .i64 C.id] 3) := by subst hv4; exact (heap_set_ne (by have := H.out.1.bx.lt; omega)).trans A3.out.2.2.2.2
      clear q4 f4 hv4
      have A4 := Lib.hid (And.intro x4 (And.intro k4 (And.intro z4 (And.intro o4 g4))))
      clear x4 k4 z4 o4 g4
      refine hK (fun W => ∃ cs, Bx W p cs ∧ cs[11]? = some (.int .i64 C.id)) _ _ (fun _ h => h) ⟨_, A4.out.1, rfl⟩ ?_
      clear hK K
      try simp only [Act.put, List.setIfInBounds_toArray, List.set_cons_zero, List.set_cons_succ]
      repeat (first
        | (refine wpS_take (v := ?_) rfl rfl (by rfl) ?_ ?_; rotate_left; (intro W hW; have hf := FF.out W hW; go_split_ands; go_simp; try with_reducible rfl); try simp only [Act.put, List.setIfInBounds_toArray, List.set_cons_zero, List.set_cons_succ])
        | (refine wpS_skip rfl rfl (by rfl) ?_; try simp only [Act.put, List.setIfInBounds_toArray, List.set_cons_zero, List.set_cons_succ]))
      refine wpS_last rfl (by rfl) (fun K hK => ?_)
      have q5 : World.cell? v4 ⟨p, 15, none⟩ = some (.slice m.V m.nv m.cv) := A4.out.1.c 15
      have f5 : World.frozen? v4 ⟨p, 15, none⟩ = false := A4.out.1.f 15
      go_simp
      obtain ⟨v5, hv5⟩ : ∃ v, v = ((World.setCell v4 ⟨p, 15, none⟩ (.slice (some ⟨w.heap.size, 0, none⟩) 1 1))) := ⟨_, rfl⟩
      have x5 := (A4.out.1.set 15 (.slice (some ⟨w.heap.size, 0, none⟩) 1 1))
      rw [← hv5] at x5 ⊢
      have k5 : ∀ b, b < w.heap.size → b ≠ p → v5.heap[b]? = w.heap[b]? := fun b hl hb => by subst hv5; exact (heap_set_ne hb).trans (A4.out.2.1 b hl hb)
      have z5 : v5.heap.size = w.heap.size + 1 := by subst hv5; exact (size_set _ _ _).trans A4.out.2.2.1
      have o5 : v5.os = w.os ∧ v5.tape = w.tape ∧ v5.output = w.output := by subst hv5; exact A4.out.2.2.2.1
      have g5 : v5.heap[w.heap.size]? = some (.cells #[.int .i64 C.id] 3) := by subst hv5; exact (heap_set_ne (by have := H.out.1.bx.lt; omega)).trans A4.out.2.2.2.2
      clear q5 f5 hv5
      have A5 := Lib.hid (And.intro x5 (And.intro k5 (And.intro z5 (And.intro o5 g5))))
      clear x5 k5 z5 o5 g5
      refine hK _ _ ?_
      clear hK K
      try simp only [Act.put, List.setIfInBounds_toArray, List.set_cons_zero, List.set_cons_succ]
      refine wpS_nil ?_
      go_wp2_with fail
      go_meet
      case rel => exact ⟨w.heap.size, H.out.1.stoodAt A5.out.1 A5.out.2.2.2.2 (Nat.le_refl _) A5.out.2.1 A5.out.2.2.1 A5.out.2.2.2.1 H.out.2.2.1.le⟩
    · have q6 : World.cell? W1 ⟨p, 1, none⟩ = some (.int .i64 m.s.vt) := K1.out.1.c 1
      have f6 : World.frozen? W1 ⟨p, 1, none⟩ = false := K1.out.1.f 1
      go_simp
      obtain ⟨v6, hv6⟩ : ∃ v, v = ((World.setCell W1 ⟨p, 1, none⟩ (.int .i64 C.id))).drew := ⟨_, rfl⟩
      have x6 := (K1.out.1.set 1 (.int .i64 C.id)).drew
      rw [← hv6] at x6 ⊢
      have k6 : ∀ b, b < w.heap.size → b ≠ p → v6.heap[b]? = w.heap[b]? := fun b hl hb => by subst hv6; exact (heap_set_ne hb).trans ((fun b (_ : b < w.heap.size) hb => K1.out.2.1 b hb) b hl hb)
      have z6 : v6.heap.size = w.heap.size + 0 := by subst hv6; exact (size_set _ _ _).trans K1.out.2.2.1
      have o6 : v6.os = w.os ∧ v6.tape = w.tape ∧ v6.output = w.output := by subst hv6; exact K1.out.2.2.2
      have g6 : True := trivial
      clear q6 f6 hv6
      have A6 := Lib.hid (And.intro x6 (And.intro k6 (And.intro z6 (And.intro o6 g6))))
      clear x6 k6 z6 o6 g6
      refine hK (fun W => ∃ cs, Bx W p cs ∧ cs[11]? = some (.int .i64 C.id)) _ _ (fun _ h => h) ⟨_, A6.out.1, rfl⟩ ?_
      clear hK K
      try simp only [Act.put, List.setIfInBounds_toArray, List.set_cons_zero, List.set_cons_succ]
      repeat (first
        | (refine wpS_take (v := ?_) rfl rfl (by rfl) ?_ ?_; rotate_left; (intro W hW; have hf := FF.out W hW; go_split_ands; go_simp; try with_reducible rfl); try simp only [Act.put, List.setIfInBounds_toArray, List.set_cons_zero, List.set_cons_succ])
        | (refine wpS_skip rfl rfl (by rfl) ?_; try simp only [Act.put, List.setIfInBounds_toArray, List.set_cons_zero, List.set_cons_succ]))
      refine wpS_two rfl rfl (by rfl) (by rfl) (fun K hK => ?_) (fun K hK => ?_)
      · go_simp
        obtain ⟨v7, hv7⟩ : ∃ v, v = ((World.alloc v6 (.cells #[.int .i64 C.id] 3))) := ⟨_, rfl⟩
        have x7 := (A6.out.1.alloc (.cells #[.int .i64 C.id] 3))
        rw [← hv7] at x7 ⊢
        have zz7 := A6.out.2.2.1
        try rw [zz7]
        have k7 : ∀ b, b < w.heap.size → b ≠ p → v7.heap[b]? = w.heap[b]? := fun b hl hb => by subst hv7; exact (Below.heap_alloc _ _ _ (by rw [zz7]; exact hl)).trans (A6.out.2.1 b hl hb)
        have z7 : v7.heap.size = w.heap.size + 1 := by subst hv7; simp [World.drew]; exact A6.out.2.2.1
        have o7 : v7.os = w.os ∧ v7.tape = w.tape ∧ v7.output = w.output := by subst hv7; exact A6.out.2.2.2.1
        have g7 : v7.heap[w.heap.size]? = some (.cells #[.int .i64 C.id] 3) := by subst hv7; have e := heap_alloc_new v6 (.cells #[.int .i64 C.id] 3); rw [zz7] at e; exact e
        clear hv7 zz7
        have A7 := Lib.hid (And.intro x7 (And.intro k7 (And.intro z7 (And.intro o7 g7))))
        clear x7 k7 z7 o7 g7
        refine hK (fun W => ∃ cs, Bx W p cs ∧ cs[11]? = some (.int .i64 C.id)) _ _ (fun _ h => h) ⟨_, A7.out.1, rfl⟩ ?_
        clear hK K
        try simp only [Act.put, List.setIfInBounds_toArray, List.set_cons_zero, List.set_cons_succ]
        repeat (first
          | (refine wpS_take (v := ?_) rfl rfl (by rfl) ?_ ?_; rotate_left; (intro W hW; have hf := FF.out W hW; go_split_ands; go_simp; try with_reducible rfl); try simp only [Act.put, List.setIfInBounds_toArray, List.set_cons_zero, List.set_cons_succ])
          | (refine wpS_skip rfl rfl (by rfl) ?_; try simp only [Act.put, List.setIfInBounds_toArray, List.set_cons_zero, List.set_cons_succ]))
        refine wpS_one rfl (by rfl) (fun K hK => ?_)
        have q8 : World.cell? v7 ⟨p, 7, none⟩ = some (.int .i64 C.role) := A7.out.1.c 7
        have f8 : World.frozen? v7 ⟨p, 7, none⟩ = false := A7.out.1.f 7
        go_simp
        obtain ⟨v8, hv8⟩ : ∃ v, v = ((World.setCell v7 ⟨p, 7, none⟩ (.int .i64 1))) := ⟨_, rfl⟩
        have x8 := (A7.out.1.set 7 (.int .i64 1))
        rw [← hv8] at x8 ⊢
        have k8 : ∀ b, b < w.heap.size → b ≠ p → v8.heap[b]? = w.heap[b]? := fun b hl hb => by subst hv8; exact (heap_set_ne hb).trans (A7.out.2.1 b hl hb)
        have z8 : v8.heap.size = w.heap.size + 1 := by subst hv8; exact (size_set _ _ _).trans A7.out.2.2.1
        have o8 : v8.os = w.os ∧ v8.tape = w.tape ∧ v8.output = w.output := by subst hv8; exact A7.out.2.2.2.1
        have g8 : v8.heap[w.heap.size]? = some (.cells #[.int .i64 C.id] 3) := by subst hv8; exact (heap_set_ne (by have := H.out.1.bx.lt; omega)).trans A7.out.2.2.2.2
        clear q8 f8 hv8
        have A8 := Lib.hid (And.intro x8 (And.intro k8 (And.intro z8 (And.intro o8 g8))))
        clear x8 k8 z8 o8 g8
        refine hK (fun W => ∃ cs, Bx W p cs ∧ cs[11]? = some (.int .i64 C.id)) _ _ (fun _ h => h) ⟨_, A8.out.1, rfl⟩ ?_
        clear hK K
        try simp only [Act.put, List.setIfInBounds_toArray, List.set_cons_zero, List.set_cons_succ]
        repeat (first
          | (refine wpS_take (v := ?_) rfl rfl (by rfl) ?_ ?_; rotate_left; (intro W hW; have hf := FF.out W hW; go_split_ands; go_simp; try with_reducible rfl); try simp only [Act.put, List.setIfInBounds_toArray, List.set_cons_zero, List.set_cons_succ])
          | (refine wpS_skip rfl rfl (by rfl) ?_; try simp only [Act.put, List.setIfInBounds_toArray, List.set_cons_zero, List.set_cons_succ]))
        refine wpS_one rfl (by rfl) (fun K hK => ?_)
        have q9 : World.cell? v8 ⟨p, 8, none⟩ = some (.int .i64 C.leader) := A8.out.1.c 8
        have f9 : World.frozen? v8 ⟨p, 8, none⟩ = false := A8.out.1.f 8
        go_simp
        obtain ⟨v9, hv9⟩ : ∃ v, v = ((World.setCell v8 ⟨p, 8, none⟩ (.int .i64 0))) := ⟨_, rfl⟩
        have x9 := (A8.out.1.set 8 (.int .i64 0))
        rw [← hv9] at x9 ⊢
        have k9 : ∀ b, b < w.heap.size → b ≠ p → v9.heap[b]? = w.heap[b]? := fun b hl hb => by subst hv9; exact (heap_set_ne hb).trans (A8.out.2.1 b hl hb)
        have z9 : v9.heap.size = w.heap.size + 1 := by subst hv9; exact (size_set _ _ _).trans A8.out.2.2.1
        have o9 : v9.os = w.os ∧ v9.tape = w.tape ∧ v9.output = w.output := by subst hv9; exact A8.out.2.2.2.1
        have g9 : v9.heap[w.heap.size]? = some (.cells #[.int .i64 C.id] 3) := by subst hv9; exact (heap_set_ne (by have := H.out.1.bx.lt; omega)).trans A8.out.2.2.2.2
        clear q9 f9 hv9
        have A9 := Lib.hid (And.intro x9 (And.intro k9 (And.intro z9 (And.intro o9 g9))))
        clear x9 k9 z9 o9 g9
        refine hK (fun W => ∃ cs, Bx W p cs ∧ cs[11]? = some (.int .i64 C.id)) _ _ (fun _ h => h) ⟨_, A9.out.1, rfl⟩ ?_
        clear hK K
        try simp only [Act.put, List.setIfInBounds_toArray, List.set_cons_zero, List.set_cons_succ]
        repeat (first
          | (refine wpS_take (v := ?_) rfl rfl (by rfl) ?_ ?_; rotate_left; (intro W hW; have hf := FF.out W hW; go_split_ands; go_simp; try with_reducible rfl); try simp only [Act.put, List.setIfInBounds_toArray, List.set_cons_zero, List.set_cons_succ])
          | (refine wpS_skip rfl rfl (by rfl) ?_; try simp only [Act.put, List.setIfInBounds_toArray, List.set_cons_zero, List.set_cons_succ]))
        refine wpS_last rfl (by rfl) (fun K hK => ?_)
        have q10 : World.cell? v9 ⟨p, 15, none⟩ = some (.slice m.V m.nv m.cv) := A9.out.1.c 15
        have f10 : World.frozen? v9 ⟨p, 15, none⟩ = false := A9.out.1.f 15
        go_simp
        obtain ⟨v10, hv10⟩ : ∃ v, v = ((World.setCell v9 ⟨p, 15, none⟩ (.slice (some ⟨w.heap.size, 0, none⟩) 1 1))) := ⟨_, rfl⟩
        have x10 := (A9.out.1.set 15 (.slice (some ⟨w.heap.size, 0, none⟩) 1 1))
        rw [← hv10] at x10 ⊢
        have k10 : ∀ b, b < w.heap.size → b ≠ p → v10.heap[b]? = w.heap[b]? := fun b hl hb => by subst hv10; exact (heap_set_ne hb).trans (A9.out.2.1 b hl hb)
        have z10 : v10.heap.size = w.heap.size + 1 := by subst hv10; exact (size_set _ _ _).trans A9.out.2.2.1
        have o10 : v10.os = w.os ∧ v10.tape = w.tape ∧ v10.output = w.output := by subst hv10; exact A9.out.2.2.2.1
        have g10 : v10.heap[w.heap.size]? = some (.cells #[.int .i64 C.id] 3) := by subst hv10; exact (heap_set_ne (by have := H.out.1.bx.lt; omega)).trans A9.out.2.2.2.2
        clear q10 f10 hv10
        have A10 := Lib.hid (And.intro x10 (And.intro k10 (And.intro z10 (And.intro o10 g10))))
        clear x10 k10 z10 o10 g10
        refine hK _ _ ?_
        clear hK K
        try simp only [Act.put, List.setIfInBounds_toArray, List.set_cons_zero, List.set_cons_succ]
        refine wpS_nil ?_
        go_wp2_with fail
        go_meet
        case rel => exact ⟨w.heap.size, H.out.1.stoodAt A10.out.1 A10.out.2.2.2.2 (Nat.le_refl _) A10.out.2.1 A10.out.2.2.1 A10.out.2.2.2.1 H.out.2.2.1.le⟩
      · have q11 : World.cell? v6 ⟨p, 7, none⟩ = some (.int .i64 C.role) := A6.out.1.c 7
        have f11 : World.frozen? v6 ⟨p, 7, none⟩ = false := A6.out.1.f 7
        go_simp
        obtain ⟨v11, hv11⟩ : ∃ v, v = ((World.setCell v6 ⟨p, 7, none⟩ (.int .i64 1))) := ⟨_, rfl⟩
        have x11 := (A6.out.1.set 7 (.int .i64 1))
        rw [← hv11] at x11 ⊢
        have k11 : ∀ b, b < w.heap.size → b ≠ p → v11.heap[b]? = w.heap[b]? := fun b hl hb => by subst hv11; exact (heap_set_ne hb).trans (A6.out.2.1 b hl hb)
        have z11 : v11.heap.size = w.heap.size + 0 := by subst hv11; exact (size_set _ _ _).trans A6.out.2.2.1
        have o11 : v11.os = w.os ∧ v11.tape = w.tape ∧ v11.output = w.output := by subst hv11; exact A6.out.2.2.2.1
        have g11 : True := trivial
        clear q11 f11 hv11
        have A11 := Lib.hid (And.intro x11 (And.intro k11 (And.intro z11 (And.intro o11 g11))))
        clear x11 k11 z11 o11 g11
        refine hK (fun W => ∃ cs, Bx W p cs ∧ cs[11]? = some (.int .i64 C.id)) _ _ (fun _ h => h) ⟨_, A11.out.1, rfl⟩ ?_
        clear hK K
        try simp only [Act.put, List.setIfInBounds_toArray, List.set_cons_zero, List.set_cons_succ]
        repeat (first
          | (refine wpS_take (v := ?_) rfl rfl (by rfl) ?_ ?_; rotate_left; (intro W hW; have hf := FF.out W hW; go_split_ands; go_simp; try with_reducible rfl); try simp only [Act.put, List.setIfInBounds_toArray, List.set_cons_zero, List.set_cons_succ])
          | (refine wpS_skip rfl rfl (by rfl) ?_; try simp only [Act.put, List.setIfInBounds_toArray, List.set_cons_zero, List.set_cons_succ]))
        refine wpS_two rfl rfl (by rfl) (by rfl) (fun K hK => ?_) (fun K hK => ?_)
        · go_simp
          obtain ⟨v12, hv12⟩ : ∃ v, v = ((World.alloc v11 (.cells #[.int .i64 C.id] 3))) := ⟨_, rfl⟩
          have x12 := (A11.out.1.alloc (.cells #[.int .i64 C.id] 3))
          rw [← hv12] at x12 ⊢
          have zz12 := A11.out.2.2.1
          try rw [zz12]
          have k12 : ∀ b, b < w.heap.size → b ≠ p → v12.heap[b]? = w.heap[b]? := fun b hl hb => by subst hv12; exact (Below.heap_alloc _ _ _ (by rw [zz12]; exact hl)).trans (A11.out.2.1 b hl hb)
          have z12 : v12.heap.size = w.heap.size + 1 := by subst hv12; simp [World.drew]; exact A11.out.2.2.1
          have o12 : v12.os = w.os ∧ v12.tape = w.tape ∧ v12.output = w.output := by subst hv12; exact A11.out.2.2.2.1
          have g12 : v12.heap[w.heap.size]? = some (.cells #[.int .i64 C.id] 3) := by subst hv12; have e := heap_alloc_new v11 (.cells #[.int .i64 C.id] 3); rw [zz12] at e; exact e
          clear hv12 zz12
          have A12 := Lib.hid (And.intro x12 (And.intro k12 (And.intro z12 (And.intro o12 g12))))
          clear x12 k12 z12 o12 g12
          refine hK (fun W => ∃ cs, Bx W p cs ∧ cs[11]? = some (.int .i64 C.id)) _ _ (fun _ h => h) ⟨_, A12.out.1, rfl⟩ ?_
          clear hK K
          try simp only [Act.put, List.setIfInBounds_toArray, List.set_cons_zero, List.set_cons_succ]
          repeat (first
            | (refine wpS_take (v := ?_) rfl rfl (by rfl) ?_ ?_; rotate_left; (intro W hW; have hf := FF.out W hW; go_split_ands; go_simp; try with_reducible rfl); try simp only [Act.put, List.setIfInBounds_toArray, List.set_cons_zero, List.set_cons_succ])
            | (refine wpS_skip rfl rfl (by rfl) ?_; try simp only [Act.put, List.setIfInBounds_toArray, List.set_cons_zero, List.set_cons_succ]))
          refine wpS_one rfl (by rfl) (fun K hK => ?_)
          have q13 : World.cell? v12 ⟨p, 8, none⟩ = some (.int .i64 C.leader) := A12.out.1.c 8
          have f13 : World.frozen? v12 ⟨p, 8, none⟩ = false := A12.out.1.f 8
          go_simp
          obtain ⟨v13, hv13⟩ : ∃ v, v = ((World.setCell v12 ⟨p, 8, none⟩ (.int .i64 0))) := ⟨_, rfl⟩
          have x13 := (A12.out.1.set 8 (.int .i64 0))
          rw [← hv13] at x13 ⊢
          have k13 : ∀ b, b < w.heap.size → b ≠ p → v13.heap[b]? = w.heap[b]? := fun b hl hb => by subst hv13; exact (heap_set_ne hb).trans (A12.out.2.1 b hl hb)
          have z13 : v13.heap.size = w.heap.size + 1 := by subst hv13; exact (size_set _ _ _).trans A12.out.2.2.1
          have o13 : v13.os = w.os ∧ v13.tape = w.tape ∧ v13.output = w.output := by subst hv13; exact A12.out.2.2.2.1
          have g13 : v13.heap[w.heap.size]? = some (.cells #[.int .i64 C.id] 3) := by subst hv13; exact (heap_set_ne (by have := H.out.1.bx.lt; omega)).trans A12.out.2.2.2.2
          clear q13 f13 hv13
          have A13 := Lib.hid (And.intro x13 (And.intro k13 (And.intro z13 (And.intro o13 g13))))
          clear x13 k13 z13 o13 g13
          refine hK (fun W => ∃ cs, Bx W p cs ∧ cs[11]? = some (.int .i64 C.id)) _ _ (fun _ h => h) ⟨_, A13.out.1, rfl⟩ ?_
          clear hK K
          try simp only [Act.put, List.setIfInBounds_toArray, List.set_cons_zero, List.set_cons_succ]
          repeat (first
            | (refine wpS_take (v := ?_) rfl rfl (by rfl) ?_ ?_; rotate_left; (intro W hW; have hf := FF.out W hW; go_split_ands; go_simp; try with_reducible rfl); try simp only [Act.put, List.setIfInBounds_toArray, List.set_cons_zero, List.set_cons_succ])
            | (refine wpS_skip rfl rfl (by rfl) ?_; try simp only [Act.put, List.setIfInBounds_toArray, List.set_cons_zero, List.set_cons_succ]))
          refine wpS_last rfl (by rfl) (fun K hK => ?_)
          have q14 : World.cell? v13 ⟨p, 15, none⟩ = some (.slice m.V m.nv m.cv) := A13.out.1.c 15
          have f14 : World.frozen? v13 ⟨p, 15, none⟩ = false := A13.out.1.f 15
          go_simp
          obtain ⟨v14, hv14⟩ : ∃ v, v = ((World.setCell v13 ⟨p, 15, none⟩ (.slice (some ⟨w.heap.size, 0, none⟩) 1 1))) := ⟨_, rfl⟩
          have x14 := (A13.out.1.set 15 (.slice (some ⟨w.heap.size, 0, none⟩) 1 1))
          rw [← hv14] at x14 ⊢
          have k14 : ∀ b, b < w.heap.size → b ≠ p → v14.heap[b]? = w.heap[b]? := fun b hl hb => by subst hv14; exact (heap_set_ne hb).trans (A13.out.2.1 b hl hb)
          have z14 : v14.heap.size = w.heap.size + 1 := by subst hv14; exact (size_set _ _ _).trans A13.out.2.2.1
          have o14 : v14.os = w.os ∧ v14.tape = w.tape ∧ v14.output = w.output := by subst hv14; exact A13.out.2.2.2.1
          have g14 : v14.heap[w.heap.size]? = some (.cells #[.int .i64 C.id] 3) := by subst hv14; exact (heap_set_ne (by have := H.out.1.bx.lt; omega)).trans A13.out.2.2.2.2
          clear q14 f14 hv14
          have A14 := Lib.hid (And.intro x14 (And.intro k14 (And.intro z14 (And.intro o14 g14))))
          clear x14 k14 z14 o14 g14
          refine hK _ _ ?_
          clear hK K
          try simp only [Act.put, List.setIfInBounds_toArray, List.set_cons_zero, List.set_cons_succ]
          refine wpS_nil ?_
          go_wp2_with fail
          go_meet
          case rel => exact ⟨w.heap.size, H.out.1.stoodAt A14.out.1 A14.out.2.2.2.2 (Nat.le_refl _) A14.out.2.1 A14.out.2.2.1 A14.out.2.2.2.1 H.out.2.2.1.le⟩
        · have q15 : World.cell? v11 ⟨p, 8, none⟩ = some (.int .i64 C.leader) := A11.out.1.c 8
          have f15 : World.frozen? v11 ⟨p, 8, none⟩ = false := A11.out.1.f 8
          go_simp
          obtain ⟨v15, hv15⟩ : ∃ v, v = ((World.setCell v11 ⟨p, 8, none⟩ (.int .i64 0))) := ⟨_, rfl⟩
          have x15 := (A11.out.1.set 8 (.int .i64 0))
          rw [← hv15] at x15 ⊢
          have k15 : ∀ b, b < w.heap.size → b ≠ p → v15.heap[b]? = w.heap[b]? := fun b hl hb => by subst hv15; exact (heap_set_ne hb).trans (A11.out.2.1 b hl hb)
          have z15 : v15.heap.size = w.heap.size + 0 := by subst hv15; exact (size_set _ _ _).trans A11.out.2.2.1
          have o15 : v15.os = w.os ∧ v15.tape = w.tape ∧ v15.output = w.output := by subst hv15; exact A11.out.2.2.2.1
          have g15 : True := trivial
          clear q15 f15 hv15
          have A15 := Lib.hid (And.intro x15 (And.intro k15 (And.intro z15 (And.intro o15 g15))))
          clear x15 k15 z15 o15 g15
          refine hK (fun W => ∃ cs, Bx W p cs ∧ cs[11]? = some (.int .i64 C.id)) _ _ (fun _ h => h) ⟨_, A15.out.1, rfl⟩ ?_
          clear hK K
          try simp only [Act.put, List.setIfInBounds_toArray, List.set_cons_zero, List.set_cons_succ]
          repeat (first
            | (refine wpS_take (v := ?_) rfl rfl (by rfl) ?_ ?_; rotate_left; (intro W hW; have hf := FF.out W hW; go_split_ands; go_simp; try with_reducible rfl); try simp only [Act.put, List.setIfInBounds_toArray, List.set_cons_zero, List.set_cons_succ])
            | (refine wpS_skip rfl rfl (by rfl) ?_; try simp only [Act.put, List.setIfInBounds_toArray, List.set_cons_zero, List.set_cons_succ]))
          refine wpS_one rfl (by rfl) (fun K hK => ?_)
          go_simp
          obtain ⟨v16, hv16⟩ : ∃ v, v = ((World.alloc v15 (.cells #[.int .i64 C.id] 3))) := ⟨_, rfl⟩
          have x16 := (A15.out.1.alloc (.cells #[.int .i64 C.id] 3))
          rw [← hv16] at x16 ⊢
          have zz16 := A15.out.2.2.1
          try rw [zz16]
          have k16 : ∀ b, b < w.heap.size → b ≠ p → v16.heap[b]? = w.heap[b]? := fun b hl hb => by subst hv16; exact (Below.heap_alloc _ _ _ (by rw [zz16]; exact hl)).trans (A15.out.2.1 b hl hb)
          have z16 : v16.heap.size = w.heap.size + 1 := by subst hv16; simp [World.drew]; exact A15.out.2.2.1
          have o16 : v16.os = w.os ∧ v16.tape = w.tape ∧ v16.output = w.output := by subst hv16; exact A15.out.2.2.2.1
          have g16 : v16.heap[w.heap.size]? = some (.cells #[.int .i64 C.id] 3) := by subst hv16; have e := heap_alloc_new v15 (.cells #[.int .i64 C.id] 3); rw [zz16] at e; exact e
          clear hv16 zz16
          have A16 := Lib.hid (And.intro x16 (And.intro k16 (And.intro z16 (And.intro o16 g16))))
          clear x16 k16 z16 o16 g16
          refine hK (fun W => ∃ cs, Bx W p cs ∧ cs[11]? = some (.int .i64 C.id)) _ _ (fun _ h => h) ⟨_, A16.out.1, rfl⟩ ?_
          clear hK K
          try simp only [Act.put, List.setIfInBounds_toArray, List.set_cons_zero, List.set_cons_succ]
          repeat (first
            | (refine wpS_take (v := ?_) rfl rfl (by rfl) ?_ ?_; rotate_left; (intro W hW; have hf := FF.out W hW; go_split_ands; go_simp; try with_reducible rfl); try simp only [Act.put, List.setIfInBounds_toArray, List.set_cons_zero, List.set_cons_succ])
            | (refine wpS_skip rfl rfl (by rfl) ?_; try simp only [Act.put, List.setIfInBounds_toArray, List.set_cons_zero, List.set_cons_succ]))
          refine wpS_last rfl (by rfl) (fun K hK => ?_)
          have q17 : World.cell? v16 ⟨p, 15, none⟩ = some (.slice m.V m.nv m.cv) := A16.out.1.c 15
          have f17 : World.frozen? v16 ⟨p, 15, none⟩ = false := A16.out.1.f 15
          go_simp
          obtain ⟨v17, hv17⟩ : ∃ v, v = ((World.setCell v16 ⟨p, 15, none⟩ (.slice (some ⟨w.heap.size, 0, none⟩) 1 1))) := ⟨_, rfl⟩
          have x17 := (A16.out.1.set 15 (.slice (some ⟨w.heap.size, 0, none⟩) 1 1))
          rw [← hv17] at x17 ⊢
          have k17 : ∀ b, b < w.heap.size → b ≠ p → v17.heap[b]? = w.heap[b]? := fun b hl hb => by subst hv17; exact (heap_set_ne hb).trans (A16.out.2.1 b hl hb)
          have z17 : v17.heap.size = w.heap.size + 1 := by subst hv17; exact (size_set _ _ _).trans A16.out.2.2.1
          have o17 : v17.os = w.os ∧ v17.tape = w.tape ∧ v17.output = w.output := by subst hv17; exact A16.out.2.2.2.1
          have g17 : v17.heap[w.heap.size]? = some (.cells #[.int .i64 C.id] 3) := by subst hv17; exact (heap_set_ne (by have := H.out.1.bx.lt; omega)).trans A16.out.2.2.2.2
          clear q17 f17 hv17
          have A17 := Lib.hid (And.intro x17 (And.intro k17 (And.intro z17 (And.intro o17 g17))))
          clear x17 k17 z17 o17 g17
          refine hK _ _ ?_
          clear hK K
          try simp only [Act.put, List.setIfInBounds_toArray, List.set_cons_zero, List.set_cons_succ]
          refine wpS_nil ?_
          go_wp2_with fail
          go_meet
          case rel => exact ⟨w.heap.size, H.out.1.stoodAt A17.out.1 A17.out.2.2.2.2 (Nat.le_refl _) A17.out.2.1 A17.out.2.2.1 A17.out.2.2.2.1 H.out.2.2.1.le⟩
  case rest =>
    obtain ⟨g, hto⟩ := hcut
    have hdr := draws_any p _ C.span draw wc hto.cx.bx rfl (by unfold Mb.cells coreC; simp) H.out.2.1.span.1 H.out.2.1.span.2
    have T1 := Lib.hid hto
    have Hdr := Lib.hid hdr
    clear hto hdr
    go_wp2_with fail
    refine Hdr.out.mono ?_
    rintro e w2 ⟨rfl, x2, g2⟩
    have hto : CTo fb w p V U (C.stood.draws draw) w2 (fun b => V b ∨ b = g) (fun b => U b ∨ b = g) (m.stood C g) := T1.out.cells x2 g2 rfl rfl rfl rfl
    have hst := stand_eq C draw
    have hok := H.out.2.1.stood' H.out.2.2.2 draw
    obtain ⟨C3, hC3⟩ : ∃ C3, C.stood.draws draw = C3 := ⟨_, rfl⟩
    obtain ⟨M, hM⟩ : ∃ M, m.stood C g = M := ⟨_, rfl⟩
    rw [hC3] at hto hst hok
    rw [hM] at hto
    have hen : Env fb w2 := H.out.2.2.1.kept hto.kept H.out.1.vf
    have hcx := hto.cx
    have hf := hcx.fit hok
    have hmb := members_any hcx.drew hf hok.may hen.drew.ev
    have hln := (cmay_iff.1 (members_may hok.may)).2.2.2
    have hvt : Rd w2 T 1 M.V M.nv (ii C3.votes) := (Rd.of_own hcx.vt).any
    have hvl : M.nv ≤ 1000000 := by have := ii_len hvt; have := hok.votes.1; have := hok.big; omega
    have hld := lead_any hcx.drew hok hen.drew
    have hld := fun W (hb : Below w2.heap.size w2 W) => lead_any (hcx.below hb) hok (hen.new hb)
    have hot := fun W (hb : Below w2.heap.size w2 W) => others_any (hcx.below hb) hf hok.may (hen.new hb).ev
    have hsay := fun x W (hb : Below w2.heap.size w2 W) => say_any 1 x (hcx.below hb)
    have hla := fun W (hb : Below w2.heap.size w2 W) => Last_any M.s.b M.s.t M.s.A M.s.n M.s.c M.s.L W (hcx.below hb).at_.l (hcx.at_.wel hf) (hcx.lm hok.may) hf.z.1
    have ela : lstA M.s.b (M.s.L.map en) = lstA C3.s.b C3.s.l ∧ lstB M.s.t (M.s.L.map en) = lstB C3.s.t C3.s.l := by
      obtain ⟨_, _, k3, k4, k5, _⟩ := hcx.s_eq
      rw [k3, k4, k5]
      exact ⟨rfl, rfl⟩
    rw [ela.1, ela.2] at hla
    have F : ∀ W, Below w2.heap.size w2 W → W.cell? ⟨p, 15, none⟩ = some (.slice M.V M.nv M.cv) := fun W hb => (hcx.below hb).bx.c 15
    have G : ∀ W, Below w2.heap.size w2 W → W.cell? ⟨p, 2, none⟩ = some (.int .i64 M.s.b) ∧ W.cell? ⟨p, 3, none⟩ = some (.int .i64 M.s.t) ∧ W.cell? ⟨p, 4, none⟩ = some (.slice M.s.A M.s.n M.s.c) := fun W hb => ⟨(hcx.below hb).bx.c 2, (hcx.below hb).bx.c 3, (hcx.below hb).bx.c 4⟩
    have hol := others_len hok.may
    obtain ⟨l0, hl0⟩ : ∃ l0, C3.others = l0 := ⟨_, rfl⟩
    rw [hl0] at hot hol hst
    obtain ⟨qv, hqv⟩ : ∃ q, quor C3.members C3.votes = q := ⟨_, rfl⟩
    rw [hqv] at hst
    have Hmb := Lib.hid hmb
    have Hot := Lib.hid hot
    have HLd := Lib.hid hld
    have Hsay := Lib.hid hsay
    have Hla := Lib.hid hla
    have FF := Lib.hid F
    have GG := Lib.hid G
    have T2 := Lib.hid (And.intro hto (And.intro hst (And.intro hln (And.intro hvt (And.intro hvl (And.intro hqv hol))))))
    clear hto hst hok hC3 hM hen hcx hf hmb hln hvt hvl hld hot hsay hla ela F G hol hl0 hqv x2 g2 T1 Hdr
    go_upto_region 4 with (fail)
    refine wp_region_S 6 (fun W => Below w2.heap.size w2 W) (.take 0 (.take 2 (.take 3 (.take 4 (.take 5 (.one 1 (.one 6 (.nil)))))))) (by kernel_rfl) (Below.refl _ _).drew (fun _ _ _ _ h => h) (fun hS => ?_)
    repeat (first
      | (refine wpS_take (v := ?_) rfl rfl (by rfl) ?_ ?_; rotate_left; (intro W hW; have hf := FF.out W hW; go_split_ands; go_simp; try with_reducible rfl); try simp only [Act.put, List.setIfInBounds_toArray, List.set_cons_zero, List.set_cons_succ])
      | (refine wpS_skip rfl rfl (by rfl) ?_; try simp only [Act.put, List.setIfInBounds_toArray, List.set_cons_zero, List.set_cons_succ]))
    refine wpS_one rfl (by rfl) (fun K hK => ?_)
    go_simp
    go_at_call 62
    refine (Hmb.out).mono ?_
    intro e w3 h3
    obtain ⟨A3, n3, c3, rfl, o3, hb3⟩ := h3
    have hS3 : Below w2.heap.size w2 w3 := (Below.refl _ _).drew.trans hb3
    have hn3 : n3 ≤ 7 := by have := ii_len (Rd.of_own o3); have := T2.out.2.2.1; omega
    have hq3 := quorum_any A3 n3 c3 C3.members M.V M.nv M.cv C3.votes w3 (Rd.of_own o3) (by omega) (T2.out.2.2.2.1.below hS3) T2.out.2.2.2.2.1
    rw [T2.out.2.2.2.2.2.1] at hq3
    have Hq3 := Lib.hid hq3
    clear o3 hb3 hq3
    refine hK (fun W => Below w2.heap.size w2 W) _ _ (fun _ h => h) hS3 ?_
    clear hK K
    try simp only [Act.put, List.setIfInBounds_toArray, List.set_cons_zero, List.set_cons_succ]
    refine wpS_last rfl (by rfl) (fun K hK => ?_)
    go_simp
    go_at_call 61
    refine Hq3.out.mono ?_
    rintro e w4 ⟨rfl, rfl⟩
    refine hK _ _ ?_
    clear hK K
    try simp only [Act.put, List.setIfInBounds_toArray, List.set_cons_zero, List.set_cons_succ]
    refine wpS_nil ?_
    clear hS
    cases qv with
    | true =>
      have hld := HLd.out _ hS3
      have Hld := Lib.hid hld
      clear hld
      go_wp2_with fail
      refine Hld.out.mono ?_
      intro e w5 h5
      obtain ⟨A5, n5, c5, X5, V5, U5, M5, rfl, j1, j2, j3, j4⟩ := h5
      have K5 := Lib.hid (And.intro j1 (And.intro j2 (And.intro j3 j4)))
      clear j1 j2 j3 j4
      go_wp2_with fail
      go_ret
      rw [T2.out.2.1, if_pos (by trivial)]
      exact OutPost.up (T2.out.1.below hS3) ⟨A5, n5, c5, X5, V5, U5, M5, rfl, K5.out.1, K5.out.2.1, K5.out.2.2.1, K5.out.2.2.2⟩
    | false =>
      have hot := Hot.out _ hS3
      have Hot3 := Lib.hid hot
      clear hot
      go_wp2_with fail
      refine Hot3.out.mono ?_
      intro e w5 h5
      obtain ⟨A0, n0, c0, rfl, o0, hb5⟩ := h5
      have hl : l0.length = n0 := by have := o0.1; simpa [ii] using this
      have hS5 : Below w2.heap.size w2 w5 := hS3.trans (hb5.mono hS3.size)
      have O := Lib.hid (And.intro o0 (And.intro hS5 hl))
      clear o0 hb5 hl hS5
      go_wp2_with fail
      go_loopg [5, 7, 8, 57] n0 (fun gm s5 s7 s8 s57 wr => ∃ (j : Nat) (A : Option Addr) (c : Nat) (X : List Mr), gm = n0 - j ∧ j ≤ n0 ∧ s57 = .int .i64 j ∧ s5 = .slice A j c ∧ Rm wr w5.heap.size A j c X ∧ X.map Mr.ms = (l0.take j).map (fun w => { C3.say 1 w with ix := lstA C3.s.b C3.s.l, lt := lstB C3.s.t C3.s.l }) ∧ Below w5.heap.size w5 wr)
      case atStart => exact ⟨0, none, 0, [], by omega, by omega, rfl, rfl, Rm.nil _ _, rfl, Below.refl _ _⟩
      case round =>
        obtain ⟨j, A, c, X, hm, hj, rfl, rfl, hR⟩ := hrel
        have Hm := Lib.hid hm
        have R := Lib.hid hR
        clear hm hR
        by_cases hlt : j < n0
        · have hltI : decide ((j : Int) < (n0 : Int)) = true := decide_eq_true (by omega)
          have rd := (Rd.of_own O.out.1).below R.out.2.2
          obtain ⟨b, o, x, rfl, _, _, hx, hc⟩ := ii_cell rd hlt
          have htk : l0.take (j + 1) = l0.take j ++ [x] := by rw [List.take_add_one, hx]; rfl
          have hbr : Below w2.heap.size w2 wr := O.out.2.1.trans (R.out.2.2.mono O.out.2.1.size)
          have B := Lib.hid (And.intro htk hbr)
          clear rd htk hbr hx
          go_wp2_with fail
          refine (Hsay.out x wr B.out.2).mono ?_
          rintro e w6 ⟨rfl, hb6⟩
          unfold Mr.val Cr.sayM
          dsimp only
          have hb26 : Below w2.heap.size w2 w6 := B.out.2.trans (hb6.mono B.out.2.size)
          go_upto_region 11 with (fail)
          obtain ⟨W7, hW7⟩ : ∃ W7, W7 = w6.alloc (.cells #[.int .i64 1, .int .i64 C3.id, .int .i64 x, .int .i64 C3.s.tm, .int .i64 0, .int .i64 0, .int .i64 0, .int .i64 0, .bool false, .int .i64 0, .slice none 0 0, .slice none 0 0] 78) := ⟨_, rfl⟩
          have z7 : Bx W7 w6.heap.size #[.int .i64 1, .int .i64 C3.id, .int .i64 x, .int .i64 C3.s.tm, .int .i64 0, .int .i64 0, .int .i64 0, .int .i64 0, .bool false, .int .i64 0, .slice none 0 0, .slice none 0 0] := by subst hW7; exact Bx.new _ _ _ rfl
          have hb67 : Below w6.heap.size w6 W7 := by subst hW7; exact (Below.refl _ _).alloc (Nat.le_refl _) _
          have hb27 : Below w2.heap.size w2 W7 := hb26.trans (hb67.mono hb26.size)
          rw [← hW7]
          obtain ⟨c2, c3, c4⟩ := GG.out W7 hb27
          have Z7 := Lib.hid (And.intro z7 (And.intro hb67 (And.intro hb27 hb6)))
          clear z7 hb67 hb27 hW7 hb26 hb6
          go_wp2_with fail
          refine (Hla.out W7 Z7.out.2.2.1).mono ?_
          rintro e w8 ⟨rfl, hb8⟩
          have z8 := Z7.out.1.below hb8
          have q4 : w8.cell? ⟨w6.heap.size, 4, none⟩ = some (.int .i64 0) := z8.c 4
          have q5 : w8.cell? ⟨w6.heap.size, 5, none⟩ = some (.int .i64 0) := z8.c 5
          have p4 := z8.f 4
          have p5 := z8.f 5
          have Z8 := Lib.hid (And.intro z8 hb8)
          clear z8 hb8 c2 c3 c4
          go_upto_region 12 with (fail)
          obtain ⟨W9, hW9⟩ : ∃ W9, W9 = (w8.setCell ⟨w6.heap.size, 4, none⟩ (.int .i64 (lstA C3.s.b C3.s.l))).setCell ⟨w6.heap.size, 5, none⟩ (.int .i64 (lstB C3.s.t C3.s.l)) := ⟨_, rfl⟩
          have z9 : Bx W9 w6.heap.size #[.int .i64 1, .int .i64 C3.id, .int .i64 x, .int .i64 C3.s.tm, .int .i64 (lstA C3.s.b C3.s.l), .int .i64 (lstB C3.s.t C3.s.l), .int .i64 0, .int .i64 0, .bool false, .int .i64 0, .slice none 0 0, .slice none 0 0] := by subst hW9; exact (Z8.out.1.set 4 _).set 5 _
          have hb9 : Below w6.heap.size w6 W9 := by subst hW9; exact ((Z7.out.2.1.trans (Z8.out.2.mono Z7.out.2.1.size)).setCell (Nat.le_refl _) _).setCell (Nat.le_refl _) _
          have hr9 : Below wr.heap.size wr W9 := Z7.out.2.2.2.trans (hb9.mono Z7.out.2.2.2.size)
          rw [← hW9]
          clear hW9 q4 q5 p4 p5
          obtain ⟨g0, g1, g2, g3, g4, g5, g6, g7, g8, g9, g10, g11⟩ := z9.c12
          have rm9 := R.out.1.below hr9
          have hz9 : w5.heap.size ≤ W9.heap.size := Nat.le_trans R.out.2.2.size hr9.size
          have hj4 : j < 7 := by have := O.out.2.2; have := T2.out.2.2.2.2.2.2; omega
          have K9 := Lib.hid (And.intro rm9 (And.intro hr9 hz9))
          obtain ⟨y, hy⟩ : ∃ y : Mr, y = ⟨1, C3.id, x, C3.s.tm, lstA C3.s.b C3.s.l, lstB C3.s.t C3.s.l, 0, 0, false, 0, none, 0, 0, [], none, 0, 0, []⟩ := ⟨_, rfl⟩
          have Y := Lib.hid hy
          clear z9 hb9 hr9 rm9 hz9 hy Z7 Z8
          go_wp2_with (at_builtin; refine wpList_append_any (news := mcell ⟨1, C3.id, x, C3.s.tm, lstA C3.s.b C3.s.l, lstB C3.s.t C3.s.l, 0, 0, false, 0, none, 0, 0, [], none, 0, 0, []⟩) _ Tryz.underlying54 msg_elem rfl (by omega) rfl rfl rfl (K9.out.1.alloc _).ow rfl (show Rd _ _ 12 _ 1 (mcell ⟨1, C3.id, x, C3.s.tm, lstA C3.s.b C3.s.l, lstB C3.s.t C3.s.l, 0, 0, false, 0, none, 0, 0, [], none, 0, 0, []⟩) from Rd.blitg (cs := Mr.cells ⟨1, C3.id, x, C3.s.tm, lstA C3.s.b C3.s.l, lstB C3.s.t C3.s.l, 0, 0, false, 0, none, 0, 0, [], none, 0, 0, []⟩) rfl (by simp)) (by intro u hu; exact mcell_one [⟨1, C3.id, x, C3.s.tm, lstA C3.s.b C3.s.l, lstB C3.s.t C3.s.l, 0, 0, false, 0, none, 0, 0, [], none, 0, 0, []⟩] u (by simpa [flat] using hu)) (by omega) (by have := K9.out.2.2; simp; omega) rfl rfl ?_; intro A1 c1 w10 hown1 hg1 hat1)
          go_roundg (n0 - (j + 1))
          case measure => have := Hm.out; omega
          case rel =>
            have hal : ∀ o, Below W9.heap.size W9 (W9.alloc o) := fun o => (Below.refl _ _).alloc (Nat.le_refl _) o
            have hyat : ∀ W ok, Mr.At y W ok := fun W ok => by rw [Y.out]; exact ⟨Rd.none_, ⟨Nat.le_refl _, by simp [maxLen]⟩, Rd.none_, (fun y hy => by cases hy), ⟨Nat.le_refl _, by simp [maxLen]⟩⟩
            refine ⟨j + 1, A1, c1, X ++ [y], rfl, by omega, rfl, rfl, ?_, ?_, ?_⟩
            · refine (K9.out.1.alloc _).push (hyat _ _) ?_ hg1 hat1
              rw [Y.out]
              exact hown1
            · rw [B.out.1, List.map_append, List.map_append, R.out.2.1, Y.out]
              rfl
            · exact ((R.out.2.2.trans (K9.out.2.1.mono R.out.2.2.size)).trans ((hal _).mono K9.out.2.2)).grown hg1 (by have := K9.out.2.2; simp; omega) fun b e => (own_lt R.out.1.ow b e).1
        · have hltI : decide ((j : Int) < (n0 : Int)) = false := decide_eq_false (by omega)
          obtain rfl : j = n0 := by omega
          go_wp2_with fail
          go_ret
          have e1 : l0.take j = l0 := List.take_of_length_le (by have := O.out.2.2; omega)
          have hR := R.out
          rw [e1] at hR
          rw [T2.out.2.1, if_neg (by intro h; cases h)]
          have hbr : Below w2.heap.size w2 wr := O.out.2.1.trans (hR.2.2.mono O.out.2.1.size)
          have hto := T2.out.1.below hbr
          refine ⟨A, j, c, X, _, _, _, rfl, hR.1.mono ?_, hR.2.1, fun x hx => (hR.1.at_ hx).mono fun b hb hu => ?_, hto⟩
          · exact Nat.le_trans T2.out.1.kept.size O.out.2.1.size
          · have := T2.out.1.cx.ul b hu
            have := O.out.2.1.size
            omega
end Go.Proofs.YtmhaahcbmdhinaaGreatDoor

namespace Go.Proofs.YtmhaahcbmdhinaaGreatDoor
open Go.RowKit
set_option maxRecDepth 100000
set_option linter.unusedVariables false
set_option linter.unusedSimpArgs false
theorem CX.withGone {fb p : Nat} {w : World} {V U : Nat → Prop} {C : Cr} {m : Mb} (h : CX fb w p V U C m) (n : Int) : CTo fb w p V U { C with gone := n } (w.setCell ⟨p, 13, none⟩ (.int .i64 n)) V U m :=
  (CTo.refl h).cells (h.bx.set 13 _) (gb_set _ p 13 _) rfl rfl rfl rfl
set_option maxHeartbeats 12800000 in
theorem tick_any {fb p : Nat} {w : World} {V U : Nat → Prop} {C : Cr} {m : Mb} {k : Nat} (draw : Int) (h : CX fb w p V U C m) (ho : C.Ok k) (he : Env fb w) :
    Calls Tryz.prog 17 #[.pointer (some ⟨p, 0, none⟩), .int .i64 draw] w (OutPost fb w p V U (C.tick draw)) := by
  obtain ⟨W1, hW1⟩ : ∃ W1, W1 = w.setCell ⟨p, 13, none⟩ (.int .i64 (C.gone + 1)) := ⟨_, rfl⟩
  have hto : CTo fb w p V U { C with gone := C.gone + 1 } W1 V U m := by subst hW1; exact h.withGone _
  obtain ⟨W2, hW2⟩ : ∃ W2, W2 = W1.setCell ⟨p, 13, none⟩ (.int .i64 0) := ⟨_, rfl⟩
  have hto2 : CTo fb w p V U { C with gone := 0 } W2 V U m := by subst hW2; exact hto.trans (hto.cx.withGone 0)
  have hg := ho.gone
  have hok2 : ({ C with gone := 0 } : Cr).Ok k := ho.goneTo (by omega)
  have hen2 : Env fb W2 := he.kept hto2.kept h.vf
  have wg : IntKind.i64.wrap (C.gone + 1) = C.gone + 1 := by rw [IntKind.wrap_i64]; omega
  have hs := ho.span
  have c13 : w.cell? ⟨p, 13, none⟩ = some (.int .i64 C.gone) := h.bx.c 13
  have f13 := h.bx.f 13
  have d13 : W1.cell? ⟨p, 13, none⟩ = some (.int .i64 (C.gone + 1)) := hto.cx.bx.c 13
  have e13 := hto.cx.bx.f 13
  have d7 : W1.cell? ⟨p, 7, none⟩ = some (.int .i64 C.role) := hto.cx.bx.c 7
  have d12 : W1.cell? ⟨p, 12, none⟩ = some (.int .i64 C.span) := hto.cx.bx.c 12
  have d14 : W1.cell? ⟨p, 14, none⟩ = some (.int .i64 C.wait) := hto.cx.bx.c 14
  have htk : C.tick draw = if C.role = 2 then (if C.gone + 1 < max 1 (C.span / 4) then ({ C with gone := C.gone + 1 }, []) else Cr.sendAll { C with gone := 0 }) else if C.gone + 1 < C.wait then ({ C with gone := C.gone + 1 }, []) else if Cr.may { C with gone := 0 } = false ∨ 1099511627776 ≤ C.s.tm then ({ C with gone := 0 }, []) else Cr.stand { C with gone := 0 } draw := by
    rw [← Int.tdiv_eq_ediv_of_nonneg (a := C.span) (b := 4) (by omega)]
    rfl
  have hal := sendAll_any hto2.cx.drew hok2 hen2.drew
  have hmy := cmayC_any hto2.cx.drew hok2 hen2.drew
  have hst := fun W (hb : Below W2.heap.size W2 W) (ht : C.s.tm < 1099511627776) => stand_any draw (hto2.cx.below hb) hok2 (hen2.new hb) ht
  have htm : ∀ W, Below W2.heap.size W2 W → W.cell? ⟨p, 0, none⟩ = some (.int .i64 C.s.tm) := fun W hb => by rw [← h.s_eq.1]; exact (hto2.cx.below hb).bx.c 0
  have vq : V m.q := h.vq
  have Hal := Lib.hid hal
  have Hmy := Lib.hid hmy
  have Hst := Lib.hid hst
  have Htm := Lib.hid htm
  clear hal hmy hst htm
  have HW := Lib.hid (And.intro hW1 hW2)
  have H := Lib.hid (And.intro hto (And.intro hto2 (And.intro hok2 (And.intro hen2 htk))))
  clear h ho he hto hto2 hok2 hen2 htk hW1 hW2 hg
  go_enter Tryz.func17, Tryz.ntmps17
  go_upto_region 4 with (fail)
  rw [← HW.out.1]
  clear c13 f13
  by_cases hr : C.role = 2
  · have hr' : (C.role == 2) = true := by simp [hr]
    go_upto_region 5 with (fail)
    go_region
    by_cases hc : C.gone + 1 < max 1 (C.span / 4)
    · have hc' : decide (C.gone + 1 < max 1 (C.span / 4)) = true := decide_eq_true hc
      go_wp2_with fail
      go_ret
      rw [H.out.2.2.2.2, if_pos hr, if_pos hc]
      exact outNil (H.out.1.below (Below.refl _ _).drew)
    · have hc' : decide (C.gone + 1 < max 1 (C.span / 4)) = false := decide_eq_false hc
      go_upto_region 8 with (fail)
      rw [← HW.out.2]
      clear d13 e13 d7 d12 d14
      go_wp2_with fail
      refine Hal.out.mono ?_
      intro e w9 h9
      obtain ⟨A9, n9, c9, X9, rfl, r9, m9, x9, k9⟩ := h9
      have K9 := Lib.hid (And.intro r9 (And.intro m9 (And.intro x9 k9)))
      clear r9 m9 x9 k9
      go_wp2_with fail
      go_ret
      rw [H.out.2.2.2.2, if_pos hr, if_neg (show ¬ C.gone + 1 < max 1 (C.span / 4) by omega)]
      exact OutPost.up (H.out.2.1.below (Below.refl _ _).drew) (AllPost.out vq H.out.2.1.cx.drew.ul ⟨A9, n9, c9, X9, rfl, K9.out.1, K9.out.2.1, K9.out.2.2.1, K9.out.2.2.2⟩)
  · have hr' : (C.role == 2) = false := by simp [hr]
    go_upto_region 9 with (fail)
    go_region
    by_cases hc : C.gone + 1 < C.wait
    · have hc' : decide (C.gone + 1 < C.wait) = true := decide_eq_true hc
      go_wp2_with fail
      go_ret
      rw [H.out.2.2.2.2, if_neg hr, if_pos hc]
      exact outNil (H.out.1.below (Below.refl _ _).drew)
    · have hc' : decide (C.gone + 1 < C.wait) = false := decide_eq_false hc
      go_upto_region 12 with (fail)
      rw [← HW.out.2]
      clear d13 e13 d7 d12 d14
      go_wp2_with fail
      refine Hmy.out.mono ?_
      intro e w9 h9
      obtain ⟨rfl, hb9⟩ := h9
      have hb9' : Below W2.heap.size W2 w9 := (Below.refl _ _).drew.trans hb9
      have ctm := Htm.out w9 hb9'
      have B9 := Lib.hid hb9'
      clear hb9 hb9'
      obtain ⟨qm, hqm⟩ : ∃ q, Cr.may { C with gone := 0 } = q := ⟨_, rfl⟩
      have htk := H.out.2.2.2.2
      rw [if_neg hr, if_neg (show ¬ C.gone + 1 < C.wait by omega), hqm] at htk
      have HK := Lib.hid htk
      rw [hqm]
      clear htk hqm
      cases qm with
      | false =>
        go_wp2_with fail
        go_ret
        rw [HK.out, if_pos (.inl (by trivial))]
        exact outNil (H.out.2.1.below B9.out)
      | true =>
        by_cases ht : 1099511627776 ≤ C.s.tm
        · have ht' : decide (1099511627776 ≤ C.s.tm) = true := decide_eq_true ht
          go_wp2_with fail
          go_ret
          rw [HK.out, if_pos (.inr ht)]
          exact outNil (H.out.2.1.below B9.out)
        · have ht' : decide (1099511627776 ≤ C.s.tm) = false := decide_eq_false ht
          have Hs := Lib.hid (Hst.out w9 B9.out (by omega))
          go_wp2_with fail
          refine Hs.out.mono ?_
          intro e w10 h10
          obtain ⟨A5, n5, c5, X5, V5, U5, M5, rfl, j1, j2, j3, j4⟩ := h10
          have K5 := Lib.hid (And.intro j1 (And.intro j2 (And.intro j3 j4)))
          clear j1 j2 j3 j4
          go_wp2_with fail
          go_ret
          rw [HK.out, if_neg (by rintro (h1 | h1); · cases h1
                                 · omega)]
          exact OutPost.up (H.out.2.1.below B9.out) ⟨A5, n5, c5, X5, V5, U5, M5, rfl, K5.out.1, K5.out.2.1, K5.out.2.2.1, K5.out.2.2.2⟩
end Go.Proofs.YtmhaahcbmdhinaaGreatDoor

namespace Go.Proofs.YtmhaahcbmdhinaaGreatDoor
open Go.RowKit
set_option maxRecDepth 100000
set_option linter.unusedVariables false
set_option linter.unusedSimpArgs false
set_option maxHeartbeats 1600000 in
theorem confEq_any (A : Option Addr) (n c : Nat) (B : Option Addr) (m d : Nat) (x y : List Int) (w : World) {ok ok' : Nat → Prop} (hr : Rd w ok 1 A n (ii x)) (hr' : Rd w ok' 1 B m (ii y)) (hn : n ≤ 1000000) (hm : m ≤ 1000000) :
    Calls Tryz.prog 116 #[.slice A n c, .slice B m d] w (BoolPost w (decide (x = y))) := by
  have hl := ii_len hr
  have hl' := ii_len hr'
  by_cases hnm : n = m
  · subst hnm
    have hne : ((n : Int) != (n : Int)) = false := by simp
    have Hl := Lib.hid (And.intro hl hl')
    clear hl hl'
    go_enter Tryz.func116, Tryz.ntmps116
    go_wp2_with fail
    go_loopg [5, 13] n (fun k s5 s13 wr => ∃ j : Nat, k = n - j ∧ j ≤ n ∧ s13 = .int .i64 j ∧ x.take j = y.take j ∧ Below w.heap.size w wr)
    case atStart => exact ⟨0, by omega, by omega, rfl, rfl, Below.refl _ _⟩
    case round =>
      obtain ⟨j, hk, hj, rfl, hq, hb⟩ := hrel
      have Hk := Lib.hid hk
      have Hq := Lib.hid hq
      have Hb := Lib.hid hb
      clear hk hq hb
      by_cases hlt : j < n
      · obtain ⟨b, o, a1, rfl, _, _, hx, hc⟩ := ii_cell (hr.below Hb.out) hlt
        obtain ⟨b', o', a2, rfl, _, _, hy, hc'⟩ := ii_cell (hr'.below Hb.out) hlt
        have hltI : (j : Int) < n := by omega
        have h0I : (0 : Int) ≤ j := by omega
        have Hxy := Lib.hid (And.intro hx hy)
        clear hx hy
        by_cases he : a1 = a2
        · subst he
          have hee : ((a1 : Int) != a1) = false := by simp
          have hq2 : x.take (j + 1) = y.take (j + 1) := by rw [List.take_add_one, List.take_add_one, Hxy.out.1, Hxy.out.2, Hq.out]
          have Hq2 := Lib.hid hq2
          clear hq2
          go_wp2_with fail
          go_region_law (fail)
          all_goals
            go_wp2_with fail
            go_roundg (n - (j + 1))
            case measure => have := Hk.out; omega
            case rel => exact ⟨j + 1, rfl, by omega, by go_num, Hq2.out, Hb.out.drew⟩
        · have hee : ((a1 : Int) != a2) = true := by simpa using he
          have hno : decide (x = y) = false := decide_eq_false fun e => he (by have h1 := Hxy.out.1; rw [e, Hxy.out.2] at h1; injection h1 with h1; exact h1.symm)
          have Hno := Lib.hid hno
          clear hno
          go_wp2_with fail
          go_region_law (fail)
          all_goals
            go_wp2_with fail
            go_ret
            exact ⟨ret_bool (by rw [Hno.out]), Hb.out.drew⟩
      · obtain rfl : j = n := by omega
        have hyes : decide (x = y) = true := decide_eq_true (by have := Hq.out; rwa [List.take_of_length_le (Nat.le_of_eq Hl.out.1), List.take_of_length_le (Nat.le_of_eq Hl.out.2)] at this)
        have Hyes := Lib.hid hyes
        clear hyes
        go_wp2_with fail
        go_ret
        exact ⟨ret_bool (by rw [Hyes.out]), Hb.out⟩
  · have hne : ((n : Int) != (m : Int)) = true := by simpa using (by omega : ¬ (n : Int) = m)
    have hno : decide (x = y) = false := decide_eq_false fun e => hnm (by rw [← hl, ← hl', e])
    rw [hno]
    clear hl hl' hno
    go_enter Tryz.func116, Tryz.ntmps116
    go_wp2_with fail
    go_ret
    exact ⟨rfl, Below.refl _ _⟩
end Go.Proofs.YtmhaahcbmdhinaaGreatDoor

namespace Go.Proofs.YtmhaahcbmdhinaaGreatDoor
open Go.RowKit
set_option maxRecDepth 100000
set_option linter.unusedVariables false
set_option linter.unusedSimpArgs false
def chgK (cm : List Int) : Option (List Int) → Int
  | none => 1
  | some l => if near l cm = false ∨ l = cm then 1 else 0
/-- The last entry that has members, as a pointer. -/
def MvAt (W : World) : Option Er → Value → Prop
  | none, v => v = .pointer none
  | some x, v => ∃ B, v = .pointer (some ⟨B, 0, none⟩) ∧ Bx W B #[.int .i64 x.a, .int .i64 x.b, .int .i64 x.c, .slice x.A x.n x.m]
theorem mvAt {W : World} {s : Nat} {q : Option Er} {e : Ending} (h : match q with
      | none => e = .returned (.pointer none)
      | some x => ∃ B, e = .returned (.pointer (some ⟨B, 0, none⟩)) ∧ s ≤ B ∧ Bx W B #[.int .i64 x.a, .int .i64 x.b, .int .i64 x.c, .slice x.A x.n x.m]) : ∃ v, e = .returned v ∧ MvAt W q v := by
  cases q with
  | none => exact ⟨_, h, rfl⟩
  | some x => obtain ⟨B, h1, _, h2⟩ := h; exact ⟨_, h1, B, rfl, h2⟩
def ErrPost (W : World) (k : Int) (e : Ending) (w' : World) : Prop := e = .returned (errE k) ∧ Below W.heap.size W w'
set_option maxHeartbeats 12800000 in
theorem change_any {fb p : Nat} {w : World} {V U : Nat → Prop} {C : Cr} {m : Mb} {k : Nat} (D : Option Addr) (nd cd : Nat) (d : List UInt8) (h : CX fb w p V U C m) (ho : C.Ok k) (he : Env fb w) (hd : Rd w T 1 D nd (bs d)) (hnd : nd ≤ cd ∧ cd ≤ maxLen) :
    Calls Tryz.prog 53 #[.pointer (some ⟨p, 0, none⟩), .slice D nd cd] w (ErrPost w (C.change d)) := by
  have hf := h.fit ho
  have hcl := clast_any h hf ho.may
  have hme := fun W (hb : Below w.heap.size w W) => member_any p C.last m.s.A m.s.n m.s.c m.s.L W ((h.below hb).bx.c 4) (h.below hb).at_.l hf.z.1
  have hou := fun W (hb : Below w.heap.size w W) => ours_any (h.below hb) hf
  have hdc := fun W (hb : Below w.heap.size w W) => cdec_any D nd cd d W (hd.below hb) hnd.1 hnd.2 (he.new hb).ev
  have hmb := fun W (hb : Below w.heap.size w W) => members_any (h.below hb) hf ho.may (he.new hb).ev
  have hln := (cmay_iff.1 (members_may ho.may)).2.2.2
  have c9 : ∀ W, Below w.heap.size w W → W.cell? ⟨p, 9, none⟩ = some (.int .i64 C.commit) := fun W hb => (h.below hb).bx.c 9
  have hq : memE C.s.l C.last = (m.s.L.reverse.find? (mch C.last)).map en := by
    obtain ⟨_, _, _, _, k5, _⟩ := h.s_eq
    rw [← k5, memE_er]
  obtain ⟨q, hqe⟩ : ∃ q, m.s.L.reverse.find? (mch C.last) = q := ⟨_, rfl⟩
  rw [hqe] at hq
  obtain ⟨qo, hqo⟩ : ∃ q, C.ours = q := ⟨_, rfl⟩
  obtain ⟨qd, hqd⟩ : ∃ q, confD d = q := ⟨_, rfl⟩
  obtain ⟨cb, hcb⟩ : ∃ cb, ((q.map en).any (fun e => decide (C.commit < e.a)) || !qo) = cb := ⟨_, rfl⟩
  have hch : C.change d = if cb = true then 31 else chgK C.members qd := by
    unfold Cr.change
    rw [hq, hqo, ← hcb, ← hqd]
    by_cases h1 : (q.map en).any (fun e => decide (C.commit < e.a)) = true ∨ qo = false
    · rw [if_pos h1, if_pos (by rcases h1 with h1 | h1 <;> simp [h1])]
    · rw [if_neg h1, if_neg (by simp only [not_or, Bool.not_eq_true, Bool.not_eq_false] at h1; simp [h1.1, h1.2])]
      cases confD d <;> rfl
  rw [hqo] at hou
  rw [hqd] at hdc
  have hcm : ∀ l, qd = some l → l.length ≤ 7 := fun l hl => (cmay_iff.1 (confD_may' (hqd.trans hl))).2.2.2
  have Hcl := Lib.hid hcl
  have H := Lib.hid (And.intro hme (And.intro hou (And.intro hdc (And.intro hmb (And.intro hln (And.intro c9 (And.intro hqe (And.intro hch (And.intro hcm hcb)))))))))
  clear h ho he hf hcl hme hou hdc hmb hln c9 hq hqe hqo hqd hch hcm hcb hd hnd
  go_enter Tryz.func53, Tryz.ntmps53
  go_wp2_with fail
  refine Hcl.out.mono ?_
  rintro e w3 ⟨rfl, hS3⟩
  go_wp2_with fail
  refine (H.out.1 _ hS3).mono ?_
  rintro e w4 ⟨hb4, hm4⟩
  rw [H.out.2.2.2.2.2.2.1] at hm4
  have hS4 : Below w.heap.size w w4 := hS3.trans (hb4.mono hS3.size)
  have S4 := Lib.hid hS4
  clear hb4 hS3 hS4
  obtain ⟨v, rfl, hv⟩ := mvAt hm4
  clear hm4
  go_upto_region 2 with (fail)
  go_cut [30] (fun s30 W => s30 = .bool cb ∧ Below w.heap.size w W)
  case first =>
    cases q with
    | none =>
      obtain rfl := hv
      have F4 : Hid (∀ W, Below w4.heap.size w4 W → W.cell? ⟨p, 9, none⟩ = some (.int .i64 C.commit)) := Lib.hid fun W hb => H.out.2.2.2.2.2.1 W (S4.out.trans (hb.mono S4.out.size))
      refine wp_region_S 18 (fun W => Below w4.heap.size w4 W) (.take 0 (.take 1 (.take 2 (.take 3 (.take 4 (.take 5 (.take 6 (.take 7 (.take 8 (.take 9 (.take 10 (.take 11 (.take 12 (.take 13 (.take 14 (.take 15 (.one 16 (.take 17 (.one 18 (.nil)))))))))))))))))))) (by kernel_rfl) (Below.refl _ _).drew (fun _ _ _ _ h => h) (fun hS => ?_)
      repeat (first
        | (refine wpS_take (v := ?_) rfl rfl (by rfl) ?_ ?_; rotate_left; (intro W hW; have hf := F4.out W hW; go_split_ands; go_simp; try with_reducible rfl); try simp only [Act.put, List.setIfInBounds_toArray, List.set_cons_zero, List.set_cons_succ])
        | (refine wpS_skip rfl rfl (by rfl) ?_; try simp only [Act.put, List.setIfInBounds_toArray, List.set_cons_zero, List.set_cons_succ]))
      refine wpS_one rfl (by rfl) (fun K hK => ?_)
      go_simp
      go_at_call 60
      refine (H.out.2.1 _ S4.out.drew).mono ?_
      rintro e w5 ⟨rfl, hb5⟩
      have hS5 : Below w4.heap.size w4 w5 := (Below.refl _ _).drew.trans hb5
      clear hb5
      refine hK (fun W => Below w4.heap.size w4 W) _ _ (fun _ h => h) hS5 ?_
      clear hK K
      try simp only [Act.put, List.setIfInBounds_toArray, List.set_cons_zero, List.set_cons_succ]
      repeat (first
        | (refine wpS_take (v := ?_) rfl rfl (by rfl) ?_ ?_; rotate_left; (intro W hW; have hf := F4.out W hW; go_split_ands; go_simp; try with_reducible rfl); try simp only [Act.put, List.setIfInBounds_toArray, List.set_cons_zero, List.set_cons_succ])
        | (refine wpS_skip rfl rfl (by rfl) ?_; try simp only [Act.put, List.setIfInBounds_toArray, List.set_cons_zero, List.set_cons_succ]))
      refine wpS_last rfl (by rfl) (fun K hK => ?_)
      go_simp
      refine hK _ _ ?_
      clear hK K
      try simp only [Act.put, List.setIfInBounds_toArray, List.set_cons_zero, List.set_cons_succ]
      refine wpS_nil ?_
      go_wp2_with fail
      go_meet
      case rel => exact ⟨by rw [← H.out.2.2.2.2.2.2.2.2.2]; cases qo <;> rfl, S4.out.trans (hS5.mono S4.out.size)⟩
    | some x =>
      obtain ⟨B, rfl, bB⟩ := hv
      have F4 : Hid (∀ W, Below w4.heap.size w4 W → W.cell? ⟨p, 9, none⟩ = some (.int .i64 C.commit) ∧ W.cell? ⟨B, 0, none⟩ = some (.int .i64 x.a)) := Lib.hid fun W hb => ⟨H.out.2.2.2.2.2.1 W (S4.out.trans (hb.mono S4.out.size)), (bB.below hb).c 0⟩
      clear bB
      by_cases hx : C.commit < x.a
      · have hx' : decide (C.commit < x.a) = true := decide_eq_true hx
        refine wp_region_S 18 (fun W => Below w4.heap.size w4 W) (.take 0 (.take 1 (.take 2 (.take 3 (.take 4 (.take 5 (.take 6 (.take 7 (.take 8 (.take 9 (.take 10 (.take 11 (.take 12 (.take 13 (.take 14 (.take 15 (.one 16 (.take 17 (.one 18 (.nil)))))))))))))))))))) (by kernel_rfl) (Below.refl _ _).drew (fun _ _ _ _ h => h) (fun hS => ?_)
        repeat (first
          | (refine wpS_take (v := ?_) rfl rfl (by rfl) ?_ ?_; rotate_left; (intro W hW; have hf := F4.out W hW; go_split_ands; go_simp; try with_reducible rfl); try simp only [Act.put, List.setIfInBounds_toArray, List.set_cons_zero, List.set_cons_succ])
          | (refine wpS_skip rfl rfl (by rfl) ?_; try simp only [Act.put, List.setIfInBounds_toArray, List.set_cons_zero, List.set_cons_succ]))
        refine wpS_pass rfl rfl (by rfl) ?_
        try simp only [Act.put, List.setIfInBounds_toArray, List.set_cons_zero, List.set_cons_succ]
        repeat (first
          | (refine wpS_take (v := ?_) rfl rfl (by rfl) ?_ ?_; rotate_left; (intro W hW; have hf := F4.out W hW; go_split_ands; go_simp; try with_reducible rfl); try simp only [Act.put, List.setIfInBounds_toArray, List.set_cons_zero, List.set_cons_succ])
          | (refine wpS_skip rfl rfl (by rfl) ?_; try simp only [Act.put, List.setIfInBounds_toArray, List.set_cons_zero, List.set_cons_succ]))
        refine wpS_last rfl (by rfl) (fun K hK => ?_)
        go_simp
        refine hK _ _ ?_
        clear hK K
        try simp only [Act.put, List.setIfInBounds_toArray, List.set_cons_zero, List.set_cons_succ]
        refine wpS_nil ?_
        go_wp2_with fail
        go_meet
        case rel =>
          refine ⟨?_, S4.out.drew⟩
          rw [← H.out.2.2.2.2.2.2.2.2.2]
          show Value.bool true = Value.bool (decide (C.commit < x.a) || !qo)
          rw [hx']
          rfl
      · have hx' : decide (C.commit < x.a) = false := decide_eq_false hx
        refine wp_region_S 18 (fun W => Below w4.heap.size w4 W) (.take 0 (.take 1 (.take 2 (.take 3 (.take 4 (.take 5 (.take 6 (.take 7 (.take 8 (.take 9 (.take 10 (.take 11 (.take 12 (.take 13 (.take 14 (.take 15 (.one 16 (.take 17 (.one 18 (.nil)))))))))))))))))))) (by kernel_rfl) (Below.refl _ _).drew (fun _ _ _ _ h => h) (fun hS => ?_)
        repeat (first
          | (refine wpS_take (v := ?_) rfl rfl (by rfl) ?_ ?_; rotate_left; (intro W hW; have hf := F4.out W hW; go_split_ands; go_simp; try with_reducible rfl); try simp only [Act.put, List.setIfInBounds_toArray, List.set_cons_zero, List.set_cons_succ])
          | (refine wpS_skip rfl rfl (by rfl) ?_; try simp only [Act.put, List.setIfInBounds_toArray, List.set_cons_zero, List.set_cons_succ]))
        refine wpS_one rfl (by rfl) (fun K hK => ?_)
        go_simp
        go_at_call 60
        refine (H.out.2.1 _ S4.out.drew).mono ?_
        rintro e w5 ⟨rfl, hb5⟩
        have hS5 : Below w4.heap.size w4 w5 := (Below.refl _ _).drew.trans hb5
        clear hb5
        refine hK (fun W => Below w4.heap.size w4 W) _ _ (fun _ h => h) hS5 ?_
        clear hK K
        try simp only [Act.put, List.setIfInBounds_toArray, List.set_cons_zero, List.set_cons_succ]
        repeat (first
          | (refine wpS_take (v := ?_) rfl rfl (by rfl) ?_ ?_; rotate_left; (intro W hW; have hf := F4.out W hW; go_split_ands; go_simp; try with_reducible rfl); try simp only [Act.put, List.setIfInBounds_toArray, List.set_cons_zero, List.set_cons_succ])
          | (refine wpS_skip rfl rfl (by rfl) ?_; try simp only [Act.put, List.setIfInBounds_toArray, List.set_cons_zero, List.set_cons_succ]))
        refine wpS_last rfl (by rfl) (fun K hK => ?_)
        go_simp
        refine hK _ _ ?_
        clear hK K
        try simp only [Act.put, List.setIfInBounds_toArray, List.set_cons_zero, List.set_cons_succ]
        refine wpS_nil ?_
        go_wp2_with fail
        go_meet
        case rel =>
          refine ⟨?_, S4.out.trans (hS5.mono S4.out.size)⟩
          rw [← H.out.2.2.2.2.2.2.2.2.2]
          show Value.bool (!qo) = Value.bool (decide (C.commit < x.a) || !qo)
          rw [hx']
          rfl
  case rest =>
    obtain ⟨rfl, hbc⟩ := hcut
    have BC := Lib.hid hbc
    clear hv hbc
    cases cb with
    | true =>
      go_wp2_with fail
      go_ret
      rw [H.out.2.2.2.2.2.2.2.1, if_pos (by trivial)]
      exact ⟨rfl, BC.out⟩
    | false =>
      go_wp2_with fail
      refine (H.out.2.2.1 wc BC.out).mono ?_
      intro e w5 h5
      cases qd with
      | none =>
        obtain ⟨rfl, hb5⟩ := h5
        rw [errE_ne (by decide)]
        have B5 := Lib.hid (BC.out.trans (hb5.mono BC.out.size))
        clear hb5
        go_wp2_with fail
        go_ret
        rw [H.out.2.2.2.2.2.2.2.1, if_neg (by intro h; cases h)]
        exact ⟨rfl, B5.out⟩
      | some l =>
        obtain ⟨A5, n5, c5, rfl, o5, hb5⟩ := h5
        rw [errE0]
        have hl5 : n5 ≤ 7 := by have := ii_len (Rd.of_own o5); have := H.out.2.2.2.2.2.2.2.2.1 l rfl; omega
        have B5 := Lib.hid (And.intro (BC.out.trans (hb5.mono BC.out.size)) (Rd.of_own o5))
        clear hb5 o5
        go_wp2_with fail
        refine (H.out.2.2.2.1 w5 B5.out.1).mono ?_
        intro e w6 h6
        obtain ⟨A6, n6, c6, rfl, o6, hb6⟩ := h6
        have hl6 : n6 ≤ 7 := by have := ii_len (Rd.of_own o6); have := H.out.2.2.2.2.1; omega
        have hnr := near_any A5 n5 c5 l A6 n6 c6 C.members w6 (B5.out.2.below hb6) (by omega) (Rd.of_own o6) (by omega)
        obtain ⟨qn, hqn⟩ : ∃ q, near l C.members = q := ⟨_, rfl⟩
        rw [hqn] at hnr
        have B6 := Lib.hid (And.intro (B5.out.1.trans (hb6.mono B5.out.1.size)) (And.intro (B5.out.2.below hb6) hqn))
        have Hnr := Lib.hid hnr
        clear hb6 o6 hnr hqn
        go_wp2_with fail
        refine Hnr.out.mono ?_
        rintro e w7 ⟨rfl, rfl⟩
        cases qn with
        | false =>
          go_wp2_with fail
          go_ret
          rw [H.out.2.2.2.2.2.2.2.1, if_neg (by intro h; cases h)]
          unfold chgK
          dsimp only
          rw [if_pos (.inl B6.out.2.2)]
          exact ⟨rfl, B6.out.1⟩
        | true =>
          go_wp2_with fail
          refine (H.out.2.2.2.1 w6 B6.out.1).mono ?_
          intro e w8 h8
          obtain ⟨A8, n8, c8, rfl, o8, hb8⟩ := h8
          have hl8 : n8 ≤ 7 := by have := ii_len (Rd.of_own o8); have := H.out.2.2.2.2.1; omega
          have heq := confEq_any A5 n5 c5 A8 n8 c8 l C.members w8 (B6.out.2.1.below hb8) (Rd.of_own o8) (by omega) (by omega)
          have B8 := Lib.hid (B6.out.1.trans (hb8.mono B6.out.1.size))
          have Heq := Lib.hid heq
          clear hb8 o8 heq
          go_wp2_with fail
          refine Heq.out.mono ?_
          rintro e w9 ⟨rfl, hb9⟩
          have B9 := Lib.hid (B8.out.trans (hb9.mono B8.out.size))
          clear hb9
          by_cases hlm : l = C.members
          · have hlm' : decide (l = C.members) = true := decide_eq_true hlm
            rw [hlm']
            go_wp2_with fail
            go_ret
            rw [H.out.2.2.2.2.2.2.2.1, if_neg (by intro h; cases h)]
            unfold chgK
            dsimp only
            rw [if_pos (.inr hlm)]
            exact ⟨rfl, B9.out⟩
          · have hlm' : decide (l = C.members) = false := decide_eq_false hlm
            rw [hlm']
            go_wp2_with fail
            go_ret
            rw [H.out.2.2.2.2.2.2.2.1, if_neg (by intro h; cases h)]
            unfold chgK
            dsimp only
            rw [if_neg (by rintro (h1 | h1)
                           · rw [B6.out.2.2] at h1; cases h1
                           · exact hlm h1)]
            exact ⟨rfl, B9.out⟩
end Go.Proofs.YtmhaahcbmdhinaaGreatDoor

