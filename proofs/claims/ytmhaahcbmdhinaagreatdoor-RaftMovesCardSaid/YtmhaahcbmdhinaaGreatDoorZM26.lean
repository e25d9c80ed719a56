/- Walk: (*raft.Core).advance: what it tells, and that the member lies where it lay
   Walk: (*raft.Core).has
   Walk: (*raft.Core).told
   Walk of chunk.Put: what it hands back is of its own -/
import Derived.Test.YtmhaahcbmdhinaaGreatDoorZM21
import Derived.Test.YtmhaahcbmdhinaaGreatDoorZM25
import Derived.Test.YtmhaahcbmdhinaaGreatDoorZM10
import Derived.Deep.RegionHeld3
namespace Go.Proofs.YtmhaahcbmdhinaaGreatDoor
open Go.RowKit
set_option maxRecDepth 100000
set_option linter.unusedVariables false
set_option linter.unusedSimpArgs false
def AdvPost (fb : Nat) (W : World) (p : Nat) (V U : Nat → Prop) (m : Mb) (r : Cr × List Ms) (e : Ending) (w' : World) : Prop :=
 ∃ A n c X, e = .returned (.slice A n c) ∧ Rm w' W.heap.size A n c X ∧ X.map Mr.ms = r.2 ∧ CTo fb W p V U r.1 w' V U m
theorem AllPost.adv {fb p : Nat} {W w' : World} {V U : Nat → Prop} {m : Mb} {r : Cr × List Ms} {e : Ending} (hu : V m.q) (h : AllPost fb W p V U m r e w') : AdvPost fb W p V U m r e w' := by
 obtain ⟨A, n, c, X, h1, h2, h3, h4, h5⟩ := h
 exact ⟨A, n, c, X, h1, h2, h3, h4, fun _ h => .inl h, fun _ h => h, fun _ h => .inl h, (Kept.refl V W).trans h5 fun b _ e => e ▸ hu⟩
theorem advNil {fb p : Nat} {W w' : World} {V U : Nat → Prop} {C : Cr} {m : Mb} (h : CTo fb W p V U C w' V U m) : AdvPost fb W p V U m (C, []) (.returned (.slice none 0 0)) w' := ⟨none, 0, 0, [], rfl, Rm.nil _ _, rfl, h⟩
theorem AdvPost.up {fb p : Nat} {w W w' : World} {V U : Nat → Prop} {C : Cr} {m : Mb} {r : Cr × List Ms} {e : Ending} (h : CTo fb w p V U C W V U m) (h2 : AdvPost fb W p V U m r e w') : AdvPost fb w p V U m r e w' := by
 obtain ⟨A, n, c, X, e1, r1, x1, t1⟩ := h2
 exact ⟨A, n, c, X, e1, r1.mono h.kept.size, x1, h.trans t1⟩
set_option maxHeartbeats 12800000 in
theorem adv_any {fb p : Nat} {w : World} {V U : Nat → Prop} {C : Cr} {m : Mb} {k : Nat} (h : CX fb w p V U C m) (ho : C.Ok k) (he : Env fb w) :
  Calls Tryz.prog 56 #[.pointer (some ⟨p, 0, none⟩)] w (AdvPost fb w p V U m C.advance) := by
 have hf := h.fit ho
 have hlast := clast_any h.drew hf ho.may
 have F : ∀ W, Below w.heap.size w W → W.cell? ⟨p, 11, none⟩ = some (.int .i64 C.id) ∧ W.cell? ⟨p, 16, none⟩ = some (.map (some m.q)) := fun W hb => ⟨(h.below hb).bx.c 11, (h.below hb).bx.c 16⟩
 have FF := Lib.hid F
 have Hlast := Lib.hid hlast
 have H := Lib.hid (And.intro h (And.intro ho (And.intro he hf)))
 clear h ho he hf hlast F
 go_enter Tryz.func56, Tryz.ntmps56
 go_upto_region 1 with (fail)
 refine wp_region_S 8 (fun W => Below w.heap.size w W) (.take 0 (.take 1 (.take 2 (.take 3 (.take 4 (.one 5 (.take 6 (.one 7 (.one 8 (.nil)))))))))) (by kernel_rfl) (Below.refl _ _).drew (fun _ _ _ _ h => h) (fun hS => ?_)
 repeat (first
  | (refine wpS_take (v := ?_) rfl rfl (by rfl) ?_ ?_; rotate_left; (intro W hW; have hf := FF.out W hW; go_split_ands; go_simp; try with_reducible rfl); try simp only [Act.put, lyA, lyB, lyC])
  | (refine wpS_skip rfl rfl (by rfl) ?_; try simp only [Act.put, lyA, lyB, lyC]))
 refine wpS_one rfl (by rfl) (fun K hK => ?_)
 go_simp
 go_at_call 55
 refine (Hlast.out).mono ?_
 rintro e w1 ⟨rfl, hb1⟩
 have hb1' : Below w.heap.size w w1 := (Below.refl _ _).drew.trans hb1
 clear hb1
 refine hK (fun W => Below w.heap.size w W) _ _ (fun _ h => h) hb1' ?_
 clear hK K
 try simp only [Act.put, lyA, lyB, lyC]
 repeat (first
  | (refine wpS_take (v := ?_) rfl rfl (by rfl) ?_ ?_; rotate_left; (intro W hW; have hf := FF.out W hW; go_split_ands; go_simp; try with_reducible rfl); try simp only [Act.put, lyA, lyB, lyC])
  | (refine wpS_skip rfl rfl (by rfl) ?_; try simp only [Act.put, lyA, lyB, lyC]))
 refine wpS_one rfl (by rfl) (fun K hK => ?_)
 go_simp
 refine hK (fun W => Below w.heap.size w W) _ _ (fun _ h => h) (hb1'.alloc hb1'.size _) ?_
 clear hK K
 try simp only [Act.put, lyA, lyB, lyC]
 refine wpS_last rfl (by rfl) (fun K hK => ?_)
 go_simp
 refine hK _ _ ?_
 clear hK K
 try simp only [Act.put, lyA, lyB, lyC]
 refine wpS_nil ?_
 clear hS
 obtain ⟨W1, hW1⟩ : ∃ W1, W1 = w1.alloc (.cells #[.int .i64 C.id, .int .i64 C.last] 190) := ⟨_, rfl⟩
 have o1 : W1.ownsRow w1.heap.size 190 2 (.slice (some ⟨w1.heap.size, 0, none⟩) 1 1) 1 (flat mkc [⟨C.id, C.last⟩]) := by subst hW1; exact own_lit1 rfl
 have hbW : Below w1.heap.size w1 W1 := by subst hW1; exact (Below.refl _ _).alloc (Nat.le_refl _) _
 have hz1 : W1.heap.size = w1.heap.size + 1 := by subst hW1; simp
 have hbw : Below w.heap.size w W1 := hb1'.trans (hbW.mono hb1'.size)
 rw [← hW1]
 obtain ⟨D, hown, hd⟩ := (H.out.1.below hbw).pm
 have hsz := hd.size (hown.entries int_key)
 have hown' := (owns_tight hown).mono hsz
 have c16 := (FF.out W1 hbw).2
 have O1 := Lib.hid (And.intro o1 (And.intro hbW (And.intro hz1 (And.intro hb1' (And.intro hbw (And.intro hd hsz))))))
 clear hW1 o1 hbW hz1 hb1' hbw hd hsz hown
 go_wp2_with (at_range; refine wpList_range_own _ rfl _ _ rfl _ _ int_key Tryz.underlying106 peR m.q 64 D rfl hown' ?_; intro w2 hrg0 hg0 hs0)
 go_frame
 clear hown' c16
 have hb2 : Below w1.heap.size w1 w2 := (O1.out.2.1).grown hg0 (by have := O1.out.2.2.1; omega) (by intro b e; cases e)
 have o2 : w2.ownsRow w1.heap.size 190 2 (.slice (some ⟨w1.heap.size, 0, none⟩) 1 1) 1 (flat mkc [⟨C.id, C.last⟩]) := own_below O1.out.1 ((Below.refl _ _).grown hg0 (Nat.le_refl _) (by intro b e; cases e))
 have R0 := Lib.hid (And.intro hrg0 (And.intro hb2 (And.intro o2 hs0)))
 clear hrg0 hb2 o2 hs0 hg0
 go_loopg [3, 4, 5] (Maps.size D) (fun gm s3 s4 s5 wr => ∃ (left : Lit → Bool) (ms : List Mk) (A : Option Addr) (j c : Nat), s3 = .slice A j c ∧ wr.ranges Tryz.prog 3 peR m.q W1.heap.size 64 D left gm ∧ wr.ownsRow w1.heap.size 190 2 (.slice A j c) j (flat mkc ms) ∧ MkInv C ms left ∧ Below w1.heap.size w1 wr ∧ A.map (·.block) ≠ some W1.heap.size ∧ j + gm ≤ 65 ∧ W1.heap.size + 1 ≤ wr.heap.size)
 case atStart =>
  refine ⟨Maps.has D, [⟨C.id, C.last⟩], _, 1, 1, rfl, R0.out.1, R0.out.2.2.1, MkInv.start O1.out.2.2.2.2.2.1, R0.out.2.1, ?_, ?_, ?_⟩
  ·intro e; injection e with e; have := O1.out.2.2.1; have e2 : w1.heap.size = W1.heap.size := e; omega
  ·have := O1.out.2.2.2.2.2.2; omega
  ·have := R0.out.2.2.2; omega
 case round =>
  obtain ⟨left, ms, A, j, c, rfl, hrg, hR⟩ := hrel
  have R := Lib.hid hR
  clear hR R0
  go_wp2_with (at_next; refine wpList_next_ranges _ rfl _ rfl _ int_key peR (Value.int .i64) peV (fun key kl hk => by obtain ⟨x, rfl, _⟩ := Maps.keyOf_int_inv Tryz.underlying3 hk; exact ⟨x, rfl⟩) (fun v y hv => by obtain ⟨q, rfl, _⟩ := peR_inv hv; exact ⟨q, rfl⟩) m.q W1.heap.size 64 D left _ rfl hrg ?_ ?_)
  ·intro hc0 hl0
   have hbwr : Below w.heap.size w wr := O1.out.2.2.2.1.trans (R.out.2.2.1.mono O1.out.2.2.2.1.size)
   have hdone := R.out.2.1.done hl0
   have hmk := Rd.of_own R.out.1
   have hj : j ≤ 65 := by have := R.out.2.2.2.2.1; omega
   have hmb := members_any (H.out.1.below hbwr) H.out.2.2.2 H.out.2.1.may (H.out.2.2.1.new hbwr).ev
   have hlen := (cmay_iff.1 (members_may H.out.2.1.may)).2.2.2
   have hag : agreed C.members ms = agr C.members C.reach := agreed_agr hdone
   obtain ⟨n, hn⟩ : ∃ n, agr C.members C.reach = n := ⟨_, rfl⟩
   rw [hn] at hag
   have hadv : C.advance = if n ≤ C.commit ∨ C.termOf n ≠ (0, C.s.tm) then (C, []) else if hasC C.members C.id = false ∧ (memE C.s.l C.last).all (fun e => decide (e.a ≤ n)) = true then (({ C with commit := n } : Cr).follow 0, []) else Cr.sendAll { C with commit := n } := by
    rw [← hn]; rfl
   have hnr : 0 ≤ n ∧ n ≤ 1099511627776 := by rw [← hn]; exact H.out.2.1.agr _
   have Hmb := Lib.hid hmb
   have A1 := Lib.hid (And.intro hbwr (And.intro hmk (And.intro hj (And.intro hlen (And.intro hag (And.intro hadv hnr))))))
   clear hrg hl0 hbwr hdone hmk hj hmb hlen hag hadv hnr hn R
   go_wp2_with fail
   refine Hmb.out.mono ?_
   intro e w3 h3
   obtain ⟨A3, n3, c3, rfl, o3, hb3⟩ := h3
   have hl3 : n3 ≤ 7 := by have := ii_len (Rd.of_own o3); have := A1.out.2.2.2.1; omega
   have hagr := agreed_any A3 n3 c3 C.members A j c ms w3 (Rd.of_own o3) (by omega) (A1.out.2.1.below hb3) (by have := A1.out.2.2.1; omega)
   rw [A1.out.2.2.2.2.1] at hagr
   have Hagr := Lib.hid hagr
   have O3 := Lib.hid (And.intro o3 (And.intro hb3 hl3))
   clear hagr o3 hb3 hl3
   go_wp2_with fail
   refine Hagr.out.mono ?_
   rintro e w4 ⟨rfl, hb4⟩
   have hb4w : Below w.heap.size w w4 := (A1.out.1.trans (O3.out.2.1.mono A1.out.1.size)).trans (hb4.mono (Nat.le_trans A1.out.1.size O3.out.2.1.size))
   have htm := H.out.1.term H.out.2.2.2 n w4 hb4w
   have hcx4 := H.out.1.below hb4w
   have c2 : w4.cell? ⟨p, 2, none⟩ = some (.int .i64 m.s.b) := hcx4.bx.c 2
   have c3' : w4.cell? ⟨p, 3, none⟩ = some (.int .i64 m.s.t) := hcx4.bx.c 3
   have c4 : w4.cell? ⟨p, 4, none⟩ = some (.slice m.s.A m.s.n m.s.c) := hcx4.bx.c 4
   have hadv := A1.out.2.2.2.2.2.1
   obtain ⟨r, hr⟩ : ∃ r, C.termOf n = r := ⟨_, rfl⟩
   rw [hr] at htm hadv
   have Htm := Lib.hid htm
   have B4 := Lib.hid (And.intro hb4 (And.intro hb4w hadv))
   clear htm hcx4 hadv hb4 hb4w hr
   obtain ⟨r1, r2⟩ := r
   go_wp2_with fail
   refine Htm.out.mono ?_
   rintro e w5 ⟨rfl, hb5⟩
   have hb5w : Below w.heap.size w w5 := B4.out.2.1.trans (hb5.mono B4.out.2.1.size)
   have hcx5 := H.out.1.below hb5w
   clear c2 c3' c4
   have c9 : w5.cell? ⟨p, 9, none⟩ = some (.int .i64 C.commit) := hcx5.bx.c 9
   have c0 : w5.cell? ⟨p, 0, none⟩ = some (.int .i64 C.s.tm) := by rw [← H.out.1.s_eq.1]; exact hcx5.bx.c 0
   have f9 := hcx5.bx.f 9
   have o5 : Rd w5 (wr.heap.size ≤ ·) 1 A3 n3 (ii C.members) := ((Rd.of_own O3.out.1).below B4.out.1).below hb5
   have B5 := Lib.hid (And.intro hb5w (And.intro hcx5 o5))
   clear hb5 hb5w hcx5 o5
   have hto5 : CTo fb w p V U C w5 V U m := (CTo.refl H.out.1).below B5.out.1
   have T5 := Lib.hid hto5
   clear hto5
   by_cases hcm : n ≤ C.commit
   ·go_wp2_with fail
    go_ret
    rw [B4.out.2.2, if_pos (.inl hcm)]
    exact advNil T5.out
   ·have hcm' : decide (n ≤ C.commit) = false := decide_eq_false hcm
    by_cases h0 : r1 = 0
    ·subst h0
     by_cases e : r2 = C.s.tm
     ·have e1 : (r2 != C.s.tm) = false := by simp [e]
      have e2 : errC 0 = .nilIface := rfl
      go_upto_region 12 with (fail)
      obtain ⟨W6, hW6⟩ : ∃ W6, W6 = w5.setCell ⟨p, 9, none⟩ (.int .i64 n) := ⟨_, rfl⟩
      have hto6 : CTo fb w p V U { C with commit := n } W6 V U m := by subst hW6; exact T5.out.trans (B5.out.2.1.withCommit n)
      have hpl : ¬ wr.heap.size ≤ p := by have := H.out.1.bx.lt; have := A1.out.1.size; omega
      have r6 : Rd W6 (wr.heap.size ≤ ·) 1 A3 n3 (ii C.members) := by subst hW6; exact B5.out.2.2.setCell (p := ⟨p, 9, none⟩) hpl _
      rw [← hW6]
      have ho6 : ({ C with commit := n } : Cr).Ok k := H.out.2.1.withCommit A1.out.2.2.2.2.2.2
      have hl6 := clast_any hto6.cx (hto6.cx.fit ho6) ho6.may
      have hm6 := fun W (hb : Below W6.heap.size W6 W) => member_any p C.last m.s.A m.s.n m.s.c m.s.L W ((hto6.cx.below hb).bx.c 4) (hto6.cx.below hb).at_.l H.out.2.2.2.z.1
      have hadv : C.advance = if hasC C.members C.id = false ∧ (memE C.s.l C.last).all (fun e => decide (e.a ≤ n)) = true then (({ C with commit := n } : Cr).follow 0, []) else Cr.sendAll { C with commit := n } := by
       rw [B4.out.2.2, if_neg]
       rintro (h1 | h1)
       ·exact absurd h1 (by omega)
       ·exact h1 (by rw [e])
      have hen6 : Env fb W6 := H.out.2.2.1.kept hto6.kept H.out.1.vf
      have K6 := Lib.hid (And.intro hto6 (And.intro r6 (And.intro ho6 (And.intro hadv hen6))))
      have Hl6 := Lib.hid hl6
      have Hm6 := Lib.hid hm6
      clear hW6 hto6 hpl r6 ho6 hl6 hm6 hadv hen6 c9 c0 f9
      go_wp2_with fail
      refine Hl6.out.mono ?_
      rintro e w7 ⟨rfl, hb7⟩
      go_wp2_with fail
      refine (Hm6.out w7 hb7).mono ?_
      rintro e w8 ⟨hb8, hm8⟩
      have hb8' : Below W6.heap.size W6 w8 := hb7.trans (hb8.mono hb7.size)
      have hhas := hasM_any A3 n3 c3 C.members C.id w8.drew (K6.out.2.1.below hb8').drew (by have := O3.out.2.2; omega)
      have hq : memE C.s.l C.last = (m.s.L.reverse.find? (mch C.last)).map en := by
       obtain ⟨_, _, _, _, k5, _⟩ := H.out.1.s_eq
       rw [← k5, memE_er]
      obtain ⟨q, hqe⟩ : ∃ q, m.s.L.reverse.find? (mch C.last) = q := ⟨_, rfl⟩
      rw [hqe] at hm8 hq
      obtain ⟨hs, hse⟩ : ∃ b, hasC C.members C.id = b := ⟨_, rfl⟩
      have hse' : (cmay C.members && decide (C.id ∈ C.members)) = hs := hse
      rw [hse'] at hhas
      have hadv := K6.out.2.2.2.1
      rw [hse, hq] at hadv
      have F8 : ∀ W, Below w8.heap.size w8 W → W.cell? ⟨p, 11, none⟩ = some (.int .i64 C.id) ∧ W.cell? ⟨p, 9, none⟩ = some (.int .i64 n) := fun W hb => ⟨((K6.out.1.cx.below hb8').below hb).bx.c 11, ((K6.out.1.cx.below hb8').below hb).bx.c 9⟩
      have hto8 : CTo fb w p V U { C with commit := n } w8.drew V U m := K6.out.1.below hb8'.drew
      have hfo := follow_any 0 hto8.cx
      have hal := sendAll_any hto8.cx K6.out.2.2.1 (K6.out.2.2.2.2.new hb8'.drew)
      have HF8 := Lib.hid F8
      have Hhas := Lib.hid hhas
      have Hfo := Lib.hid hfo
      have Hal := Lib.hid hal
      have K8 := Lib.hid (And.intro hto8 hadv)
      clear hhas hq hqe hse hse' hadv F8 hto8 hfo hal hb7 hb8
      have hq1 : V m.q := H.out.1.vq
      cases q with
      | none =>
       obtain rfl := hm8
       cases hs
       ·go_upto_region 13 with (fail)
        refine wp_region_S 22 (fun W => Below w8.heap.size w8 W) (.take 0 (.take 1 (.take 2 (.take 3 (.take 4 (.one 5 (.take 6 (.take 7 (.take 8 (.take 9 (.take 10 (.take 11 (.take 12 (.take 13 (.take 14 (.take 15 (.take 16 (.take 17 (.take 18 (.take 19 (.take 20 (.take 21 (.one 22 (.nil)))))))))))))))))))))))) (by kernel_rfl) (Below.refl _ _).drew (fun _ _ _ _ h => h) (fun hS => ?_)
        repeat (first
         | (refine wpS_take (v := ?_) rfl rfl (by rfl) ?_ ?_; rotate_left; (intro W hW; have hf := HF8.out W hW; go_split_ands; go_simp; try with_reducible rfl); try simp only [Act.put, lyA, lyB, lyC])
         | (refine wpS_skip rfl rfl (by rfl) ?_; try simp only [Act.put, lyA, lyB, lyC]))
        refine wpS_one rfl (by rfl) (fun K hK => ?_)
        go_simp
        go_at_call 109
        refine (Hhas.out).mono ?_
        rintro e w9 ⟨rfl, rfl⟩
        refine hK (fun W => Below w8.heap.size w8 W) _ _ (fun _ h => h) hS ?_
        clear hK K
        try simp only [Act.put, lyA, lyB, lyC]
        repeat (first
         | (refine wpS_take (v := ?_) rfl rfl (by rfl) ?_ ?_; rotate_left; (intro W hW; have hf := HF8.out W hW; go_split_ands; go_simp; try with_reducible rfl); try simp only [Act.put, lyA, lyB, lyC])
         | (refine wpS_skip rfl rfl (by rfl) ?_; try simp only [Act.put, lyA, lyB, lyC]))
        refine wpS_last rfl (by rfl) (fun K hK => ?_)
        go_simp
        refine hK _ _ ?_
        clear hK K
        try simp only [Act.put, lyA, lyB, lyC]
        refine wpS_nil ?_
        go_wp2_with fail
        refine Hfo.out.mono ?_
        rintro e w9 ⟨rfl, hto9⟩
        have T9 := Lib.hid hto9
        clear hto9
        go_wp2_with fail
        go_ret
        rw [K8.out.2, if_pos ⟨by first | trivial | rfl, by first | trivial | rfl⟩]
        exact advNil (K8.out.1.trans T9.out)
       ·go_upto_region 13 with (fail)
        refine wp_region_S 22 (fun W => Below w8.heap.size w8 W) (.take 0 (.take 1 (.take 2 (.take 3 (.take 4 (.one 5 (.take 6 (.take 7 (.take 8 (.take 9 (.take 10 (.take 11 (.take 12 (.take 13 (.take 14 (.take 15 (.take 16 (.take 17 (.take 18 (.take 19 (.take 20 (.take 21 (.one 22 (.nil)))))))))))))))))))))))) (by kernel_rfl) (Below.refl _ _).drew (fun _ _ _ _ h => h) (fun hS => ?_)
        repeat (first
         | (refine wpS_take (v := ?_) rfl rfl (by rfl) ?_ ?_; rotate_left; (intro W hW; have hf := HF8.out W hW; go_split_ands; go_simp; try with_reducible rfl); try simp only [Act.put, lyA, lyB, lyC])
         | (refine wpS_skip rfl rfl (by rfl) ?_; try simp only [Act.put, lyA, lyB, lyC]))
        refine wpS_one rfl (by rfl) (fun K hK => ?_)
        go_simp
        go_at_call 109
        refine (Hhas.out).mono ?_
        rintro e w9 ⟨rfl, rfl⟩
        refine hK (fun W => Below w8.heap.size w8 W) _ _ (fun _ h => h) hS ?_
        clear hK K
        try simp only [Act.put, lyA, lyB, lyC]
        repeat (first
         | (refine wpS_take (v := ?_) rfl rfl (by rfl) ?_ ?_; rotate_left; (intro W hW; have hf := HF8.out W hW; go_split_ands; go_simp; try with_reducible rfl); try simp only [Act.put, lyA, lyB, lyC])
         | (refine wpS_skip rfl rfl (by rfl) ?_; try simp only [Act.put, lyA, lyB, lyC]))
        refine wpS_last rfl (by rfl) (fun K hK => ?_)
        go_simp
        refine hK _ _ ?_
        clear hK K
        try simp only [Act.put, lyA, lyB, lyC]
        refine wpS_nil ?_
        go_wp2_with fail
        refine Hal.out.mono ?_
        intro e w9 h9
        obtain ⟨A9, n9, c9, X9, rfl, r9, m9, x9, k9⟩ := h9
        have K9 := Lib.hid (And.intro r9 (And.intro m9 (And.intro x9 k9)))
        clear r9 m9 x9 k9
        go_wp2_with fail
        go_ret
        rw [K8.out.2, if_neg (fun h => by have h2 := h.1; cases h2)]
        exact AdvPost.up K8.out.1 (AllPost.adv hq1 ⟨A9, n9, c9, X9, rfl, K9.out.1, K9.out.2.1, K9.out.2.2.1, K9.out.2.2.2⟩)
      | some x =>
       obtain ⟨B, rfl, hB, bB⟩ := hm8
       have HB := Lib.hid bB
       cases hs
       ·by_cases hx : x.a ≤ n
        ·have hx' : decide (x.a ≤ n) = true := decide_eq_true hx
         have HFB : Hid (∀ W, Below w8.heap.size w8 W → W.cell? ⟨p, 11, none⟩ = some (.int .i64 C.id) ∧ W.cell? ⟨p, 9, none⟩ = some (.int .i64 n) ∧ W.cell? ⟨B, 0, none⟩ = some (.int .i64 x.a)) := fun W hb => ⟨(HF8.out W hb).1, (HF8.out W hb).2, (HB.out.below hb).c 0⟩
         clear bB
         go_upto_region 13 with (fail)
         refine wp_region_S 22 (fun W => Below w8.heap.size w8 W) (.take 0 (.take 1 (.take 2 (.take 3 (.take 4 (.one 5 (.take 6 (.take 7 (.take 8 (.take 9 (.take 10 (.take 11 (.take 12 (.take 13 (.take 14 (.take 15 (.take 16 (.take 17 (.take 18 (.take 19 (.take 20 (.take 21 (.one 22 (.nil)))))))))))))))))))))))) (by kernel_rfl) (Below.refl _ _).drew (fun _ _ _ _ h => h) (fun hS => ?_)
         repeat (first
          | (refine wpS_take (v := ?_) rfl rfl (by rfl) ?_ ?_; rotate_left; (intro W hW; have hf := HFB.out W hW; go_split_ands; go_simp; try with_reducible rfl); try simp only [Act.put, lyA, lyB, lyC])
          | (refine wpS_skip rfl rfl (by rfl) ?_; try simp only [Act.put, lyA, lyB, lyC]))
         refine wpS_one rfl (by rfl) (fun K hK => ?_)
         go_simp
         go_at_call 109
         refine (Hhas.out).mono ?_
         rintro e w9 ⟨rfl, rfl⟩
         refine hK (fun W => Below w8.heap.size w8 W) _ _ (fun _ h => h) hS ?_
         clear hK K
         try simp only [Act.put, lyA, lyB, lyC]
         repeat (first
          | (refine wpS_take (v := ?_) rfl rfl (by rfl) ?_ ?_; rotate_left; (intro W hW; have hf := HFB.out W hW; go_split_ands; go_simp; try with_reducible rfl); try simp only [Act.put, lyA, lyB, lyC])
          | (refine wpS_skip rfl rfl (by rfl) ?_; try simp only [Act.put, lyA, lyB, lyC]))
         refine wpS_last rfl (by rfl) (fun K hK => ?_)
         go_simp
         refine hK _ _ ?_
         clear hK K
         try simp only [Act.put, lyA, lyB, lyC]
         refine wpS_nil ?_
         go_wp2_with fail
         refine Hfo.out.mono ?_
         rintro e w9 ⟨rfl, hto9⟩
         have T9 := Lib.hid hto9
         clear hto9
         go_wp2_with fail
         go_ret
         rw [K8.out.2, if_pos ⟨by first | trivial | rfl, by show decide (x.a ≤ n) = true; exact hx'⟩]
         exact advNil (K8.out.1.trans T9.out)
        ·have hx' : decide (x.a ≤ n) = false := decide_eq_false hx
         have HFB : Hid (∀ W, Below w8.heap.size w8 W → W.cell? ⟨p, 11, none⟩ = some (.int .i64 C.id) ∧ W.cell? ⟨p, 9, none⟩ = some (.int .i64 n) ∧ W.cell? ⟨B, 0, none⟩ = some (.int .i64 x.a)) := fun W hb => ⟨(HF8.out W hb).1, (HF8.out W hb).2, (HB.out.below hb).c 0⟩
         clear bB
         go_upto_region 13 with (fail)
         refine wp_region_S 22 (fun W => Below w8.heap.size w8 W) (.take 0 (.take 1 (.take 2 (.take 3 (.take 4 (.one 5 (.take 6 (.take 7 (.take 8 (.take 9 (.take 10 (.take 11 (.take 12 (.take 13 (.take 14 (.take 15 (.take 16 (.take 17 (.take 18 (.take 19 (.take 20 (.take 21 (.one 22 (.nil)))))))))))))))))))))))) (by kernel_rfl) (Below.refl _ _).drew (fun _ _ _ _ h => h) (fun hS => ?_)
         repeat (first
          | (refine wpS_take (v := ?_) rfl rfl (by rfl) ?_ ?_; rotate_left; (intro W hW; have hf := HFB.out W hW; go_split_ands; go_simp; try with_reducible rfl); try simp only [Act.put, lyA, lyB, lyC])
          | (refine wpS_skip rfl rfl (by rfl) ?_; try simp only [Act.put, lyA, lyB, lyC]))
         refine wpS_one rfl (by rfl) (fun K hK => ?_)
         go_simp
         go_at_call 109
         refine (Hhas.out).mono ?_
         rintro e w9 ⟨rfl, rfl⟩
         refine hK (fun W => Below w8.heap.size w8 W) _ _ (fun _ h => h) hS ?_
         clear hK K
         try simp only [Act.put, lyA, lyB, lyC]
         repeat (first
          | (refine wpS_take (v := ?_) rfl rfl (by rfl) ?_ ?_; rotate_left; (intro W hW; have hf := HFB.out W hW; go_split_ands; go_simp; try with_reducible rfl); try simp only [Act.put, lyA, lyB, lyC])
          | (refine wpS_skip rfl rfl (by rfl) ?_; try simp only [Act.put, lyA, lyB, lyC]))
         refine wpS_last rfl (by rfl) (fun K hK => ?_)
         go_simp
         refine hK _ _ ?_
         clear hK K
         try simp only [Act.put, lyA, lyB, lyC]
         refine wpS_nil ?_
         go_wp2_with fail
         refine Hal.out.mono ?_
         intro e w9 h9
         obtain ⟨A9, n9, c9, X9, rfl, r9, m9, x9, k9⟩ := h9
         have K9 := Lib.hid (And.intro r9 (And.intro m9 (And.intro x9 k9)))
         clear r9 m9 x9 k9
         go_wp2_with fail
         go_ret
         rw [K8.out.2, if_neg (fun h => by have h2 : decide (x.a ≤ n) = true := h.2; rw [hx'] at h2; cases h2)]
         exact AdvPost.up K8.out.1 (AllPost.adv hq1 ⟨A9, n9, c9, X9, rfl, K9.out.1, K9.out.2.1, K9.out.2.2.1, K9.out.2.2.2⟩)
       ·have HFB : Hid (∀ W, Below w8.heap.size w8 W → W.cell? ⟨p, 11, none⟩ = some (.int .i64 C.id) ∧ W.cell? ⟨p, 9, none⟩ = some (.int .i64 n) ∧ W.cell? ⟨B, 0, none⟩ = some (.int .i64 x.a)) := fun W hb => ⟨(HF8.out W hb).1, (HF8.out W hb).2, (HB.out.below hb).c 0⟩
        clear bB
        go_upto_region 13 with (fail)
        refine wp_region_S 22 (fun W => Below w8.heap.size w8 W) (.take 0 (.take 1 (.take 2 (.take 3 (.take 4 (.one 5 (.take 6 (.take 7 (.take 8 (.take 9 (.take 10 (.take 11 (.take 12 (.take 13 (.take 14 (.take 15 (.take 16 (.take 17 (.take 18 (.take 19 (.take 20 (.take 21 (.one 22 (.nil)))))))))))))))))))))))) (by kernel_rfl) (Below.refl _ _).drew (fun _ _ _ _ h => h) (fun hS => ?_)
        repeat (first
         | (refine wpS_take (v := ?_) rfl rfl (by rfl) ?_ ?_; rotate_left; (intro W hW; have hf := HFB.out W hW; go_split_ands; go_simp; try with_reducible rfl); try simp only [Act.put, lyA, lyB, lyC])
         | (refine wpS_skip rfl rfl (by rfl) ?_; try simp only [Act.put, lyA, lyB, lyC]))
        refine wpS_one rfl (by rfl) (fun K hK => ?_)
        go_simp
        go_at_call 109
        refine (Hhas.out).mono ?_
        rintro e w9 ⟨rfl, rfl⟩
        refine hK (fun W => Below w8.heap.size w8 W) _ _ (fun _ h => h) hS ?_
        clear hK K
        try simp only [Act.put, lyA, lyB, lyC]
        repeat (first
         | (refine wpS_take (v := ?_) rfl rfl (by rfl) ?_ ?_; rotate_left; (intro W hW; have hf := HFB.out W hW; go_split_ands; go_simp; try with_reducible rfl); try simp only [Act.put, lyA, lyB, lyC])
         | (refine wpS_skip rfl rfl (by rfl) ?_; try simp only [Act.put, lyA, lyB, lyC]))
        refine wpS_last rfl (by rfl) (fun K hK => ?_)
        go_simp
        refine hK _ _ ?_
        clear hK K
        try simp only [Act.put, lyA, lyB, lyC]
        refine wpS_nil ?_
        go_wp2_with fail
        refine Hal.out.mono ?_
        intro e w9 h9
        obtain ⟨A9, n9, c9, X9, rfl, r9, m9, x9, k9⟩ := h9
        have K9 := Lib.hid (And.intro r9 (And.intro m9 (And.intro x9 k9)))
        clear r9 m9 x9 k9
        go_wp2_with fail
        go_ret
        rw [K8.out.2, if_neg (fun h => by have h2 := h.1; cases h2)]
        exact AdvPost.up K8.out.1 (AllPost.adv hq1 ⟨A9, n9, c9, X9, rfl, K9.out.1, K9.out.2.1, K9.out.2.2.1, K9.out.2.2.2⟩)
     ·have e1 : (r2 != C.s.tm) = true := by simp [e]
      have e2 : errC 0 = .nilIface := rfl
      go_wp2_with fail
      go_ret
      rw [B4.out.2.2, if_pos (.inr fun h => e (congrArg Prod.snd h))]
      exact advNil T5.out
    ·have e1 : errC r1 = .iface 105 (.int .i64 r1) := if_neg h0
     go_wp2_with fail
     go_ret
     rw [B4.out.2.2, if_pos (.inr fun h => h0 (congrArg Prod.fst h))]
     exact advNil T5.out
  ·intro x q kl y y2 w3 cnt1 hkey hlx hR3 hat hrg3 hlt hg3 hs3 hen
   obtain ⟨x', ex, rfl, _⟩ := Maps.keyOf_int_inv Tryz.underlying3 hkey
   injection ex with _ ex
   subst ex
   simp only [peR_mk, Option.some.injEq, Prod.mk.injEq] at hR3
   obtain ⟨rfl, rfl⟩ := hR3
   have hq := O1.out.2.2.2.2.2.1.here hat
   have hk3 := (Kept.refl (· = W1.heap.size) wr).grown hg3 fun b e => by injection e with e; exact e.symm
   have o3 : w3.ownsRow w1.heap.size 190 2 (.slice A j c) j (flat mkc ms) := hk3.own R.out.1 fun b hb e => R.out.2.2.2.1 (e ▸ hb)
   have b3 : Below w1.heap.size w1 w3 := R.out.2.2.1.grown hg3 R.out.2.2.1.size (by intro b e; injection e with e; have := O1.out.2.2.1; omega)
   have K3 := Lib.hid (And.intro o3 (And.intro b3 (And.intro hrg3 (And.intro hs3 (And.intro hq hlx)))))
   clear hq hk3 o3 b3 hrg3 hat hkey hg3 hrg hs3 hlx
   have hjl : j ≤ 65 := by have := R.out.2.2.2.2.1; omega
   have hz3 : w1.heap.size ≤ w3.heap.size := K3.out.2.1.size
   unfold peV at hen ⊢
   go_wp2_with (at_builtin; go_loud (refine wpList_append_any (news := [.int .i64 x, .int .i64 q.mt]) _ Tryz.underlying191 mark_elem rfl (by omega) rfl rfl rfl ((K3.out.1.alloc _).alloc _) rfl (show Rd _ _ 2 _ 1 [.int .i64 x, .int .i64 q.mt] from Rd.blitg (cs := #[.int .i64 x, .int .i64 q.mt]) rfl (by simp)) (by intro u hu; simp only [List.mem_cons, List.not_mem_nil, or_false] at hu; rcases hu with rfl | rfl <;> rfl) (by omega) (by simp; omega) rfl rfl ?_; intro A1 c1 w6 hown1 hg1 hat1))
   go_roundg cnt1
   case measure => exact hlt
   case rel =>
    have hr2 := R.out.2.2.2.2
    have hz5 : W1.heap.size + 1 ≤ w3.heap.size := by rw [K3.out.2.2.2.1]; exact hr2.2
    refine ⟨_, ms ++ [⟨x, q.mt⟩], A1, j + 1, c1, rfl, ?_, ?_, R.out.2.1.step K3.out.2.2.2.2.2 K3.out.2.2.2.2.1, ?_, ?_, by omega, ?_⟩
    ·refine ((K3.out.2.2.1.alloc _).alloc _).kept hg1 ?_ ?_
     ·intro e
      have := (own_lt R.out.1 m.q e.symm).1
      have := H.out.1.pm.lt
      have := O1.out.2.2.2.1.size
      omega
     ·exact fun e => R.out.2.2.2.1 e.symm
    ·have e1 : flat mkc (ms ++ [⟨x, q.mt⟩]) = flat mkc ms ++ [.int .i64 x, .int .i64 q.mt] := by simp [flat, mkc]
     rw [e1]
     exact hown1
    ·refine (((K3.out.2.1.alloc hz3 _).alloc (by simp; omega) _)).grown hg1 (by simp; omega) ?_
     intro b e
     exact (own_lt R.out.1 b e).1
    ·rcases hat1 with e | e
     ·rw [e]; exact R.out.2.2.2.1
     ·rw [e]
      intro e2
      injection e2 with e2
      simp at e2
      omega
    ·have := hg1.size
     simp at this
     omega
theorem CX.widenV {fb p : Nat} {W w1 : World} {V U N : Nat → Prop} {C C1 : Cr} {m : Mb} (h0 : CX fb W p V U C m) (h1 : CX fb w1 p V U C1 m) (hk : Kept V W w1) (hN : ∀ b, N b → W.heap.size ≤ b ∧ b < w1.heap.size) (hh : C1.hv = C.hv) : CX fb w1 p V (fun b => U b ∨ N b) C1 m := by
 have hkb : ∀ b, ¬ U b ∧ b < W.heap.size → b < W.heap.size → w1.heap[b]? = W.heap[b]? := fun b hb hl => hk.block b hl fun hv => hb.1 (h0.vu b hv)
 have hmo : ∀ b, ¬ U b ∧ b < W.heap.size → ¬ (U b ∨ N b) := fun b hb h2 => h2.elim hb.1 fun h3 => by have := (hN b h3).1; have := hb.2; omega
 refine ⟨h1.bx, h1.pm, h1.vp, h1.vq, h1.qp, h1.vv, fun b hb => .inl (h1.vu b hb), h1.vf, fun b hb => hb.elim (h1.ul b) fun h3 => (hN b h3).2, h1.vt, (h0.at_.lt.keep hkb).mono hmo, h1.st, ?_, h1.hk⟩
 rw [hh]
 exact ((h0.hv.lt (by omega)).keep hkb).mono hmo
theorem advance_keep (C : Cr) : C.advance.1.hv = C.hv ∧ C.advance.1.s = C.s := by
 unfold Cr.advance
 dsimp only
 split
 ·exact ⟨rfl, rfl⟩
 ·split
  ·exact ⟨rfl, rfl⟩
  ·exact sendAll_keep _
theorem CTo.rowed {fb p : Nat} {w W W' : World} {V U V' U' : Nat → Prop} {C : Cr} {m : Mb} {row : Option Nat} (h : CTo fb w p V U C W V' U' m) (hg : W.grownBy W' row) (hr : ∀ b, row = some b → U' b ∧ ¬ V' b ∧ w.heap.size ≤ b) : CTo fb w p V U C W' V' U' m :=
 ⟨h.cx.hold (fun b hl ho => hg.block b hl fun e => ho.elim (hr b e.symm).2.1 fun h9 => h9 (hr b e.symm).1) hg.size, h.vs, h.us, h.un, h.kept.trans ((Kept.refl (fun b => row = some b) W).grown hg fun b e => e) fun b hb e => by have := (hr b e).2.2; omega⟩
def Pe.has (p : Pe) (ix last : Int) : Pe := { p with mt := max p.mt (min ix last), nx := max p.nx (max p.mt (min ix last) + 1) }
theorem Pe.Ok.has {p : Pe} (h : p.Ok) {ix last : Int} (hi : 0 ≤ ix ∧ ix ≤ 1099511627776) (hl : 0 ≤ last ∧ last ≤ 1099511627776) : (p.has ix last).Ok := by
 have h1 := h.nx
 have h2 := h.mt
 refine ⟨?_, ?_, h.of, h.rd⟩
 ·show 1 ≤ max p.nx (max p.mt (min ix last) + 1) ∧ max p.nx (max p.mt (min ix last) + 1) ≤ _
  omega
 ·show 0 ≤ max p.mt (min ix last) ∧ max p.mt (min ix last) ≤ _
  omega
def Cr.hasE (C : Cr) (who ix : Int) : Cr × List Ms := (C.put who ((C.of who).has ix C.last)).advance
theorem chas_eq (C : Cr) (who ix : Int) : C.has who ix = if (C.hasE who ix).1.role = 2 ∧ (C.of who).mt < ((C.of who).has ix C.last).mt ∧ ((C.of who).has ix C.last).nx ≤ (C.hasE who ix).1.last then ((C.hasE who ix).1, (C.hasE who ix).2 ++ [(C.hasE who ix).1.send who]) else C.hasE who ix := rfl
set_option maxHeartbeats 25600000 in
theorem chas_any {fb p : Nat} {w : World} {V U : Nat → Prop} {C : Cr} {m : Mb} {k : Nat} (who ix : Int) (h : CX fb w p V U C m) (ho : C.Ok k) (he : Env fb w) (hw : 1 ≤ who ∧ who ≤ 64) (hi : 0 ≤ ix ∧ ix ≤ 1099511627776) :
  Calls Tryz.prog 130 #[.pointer (some ⟨p, 0, none⟩), .int .i64 who, .int .i64 ix] w (OutPost fb w p V U (C.has who ix)) := by
 have hl := ho.last
 have hf := h.fit ho
 have hof := of_any who h hf ho.may (by unfold I64; omega) (by omega) (by omega)
 have hqo := ho.of who
 rw [chas_eq]
 obtain ⟨q, hq⟩ : ∃ q, C.of who = q := ⟨_, rfl⟩
 obtain ⟨R, hR⟩ : ∃ R, C.hasE who ix = R := ⟨_, rfl⟩
 have hR' : (C.put who (q.has ix C.last)).advance = R := by rw [← hR, ← hq]; rfl
 rw [hq] at hof hqo
 rw [hq, hR]
 have hpk := hqo.has hi hl
 have hokP : (C.put who (q.has ix C.last)).Ok k := ho.put hw hpk
 obtain ⟨mt2, hmt⟩ : ∃ z, max q.mt (min ix C.last) = z := ⟨_, rfl⟩
 obtain ⟨nx2, hnx⟩ : ∃ z, max q.nx (mt2 + 1) = z := ⟨_, rfl⟩
 have hqh : q.has ix C.last = ⟨nx2, mt2, q.of, q.rd⟩ := by
  show (⟨max q.nx (max q.mt (min ix C.last) + 1), max q.mt (min ix C.last), q.of, q.rd⟩ : Pe) = _
  rw [hmt, hnx]
 rw [hqh] at hR' hpk hokP ⊢
 have wm : IntKind.i64.wrap (mt2 + 1) = mt2 + 1 := by
  have := hpk.mt
  have h9 : mt2 ≤ 1099511627776 := this.2
  have h8 : 0 ≤ mt2 := this.1
  rw [IntKind.wrap_i64]
  omega
 obtain ⟨F, hF⟩ : ∃ F : Cr × List Ms, (if R.1.role = 2 ∧ q.mt < mt2 ∧ nx2 ≤ R.1.last then (R.1, R.2 ++ [R.1.send who]) else R) = F := ⟨_, rfl⟩
 have HF := Lib.hid hF
 show Calls _ _ _ _ (OutPost fb w p V U (if R.1.role = 2 ∧ q.mt < mt2 ∧ nx2 ≤ R.1.last then (R.1, R.2 ++ [R.1.send who]) else R))
 rw [hF]
 have H := Lib.hid (And.intro h (And.intro ho (And.intro he (And.intro hw (And.intro hi (And.intro hl (And.intro hf (And.intro hokP hR'))))))))
 have Hof := Lib.hid hof
 have HM := Lib.hid (And.intro hmt hnx)
 clear h ho he hl hf hof hqo hq hR hR' hpk hokP hqh hF hw hi
 have hmt' : max q.mt (min ix C.last) = mt2 := HM.out.1
 have hnx' : max q.nx (mt2 + 1) = nx2 := HM.out.2
 clear hmt hnx
 go_enter Tryz.func130, Tryz.ntmps130
 go_wp2_with fail
 refine Hof.out.mono ?_
 rintro e w1 ⟨rfl, hb1⟩
 unfold peV
 go_upto_region 2 with (fail)
 obtain ⟨W2, hW2⟩ : ∃ W2, W2 = w1.alloc (.cells #[.int .i64 q.nx, .int .i64 q.mt, .int .i64 q.of, .int .i64 q.rd] 130) := ⟨_, rfl⟩
 have z2 : Bx W2 w1.heap.size #[.int .i64 q.nx, .int .i64 q.mt, .int .i64 q.of, .int .i64 q.rd] := by subst hW2; exact Bx.new w1 _ 130 rfl
 have b12 : Below w1.heap.size w1 W2 := by subst hW2; exact (Below.refl _ _).alloc (Nat.le_refl _) _
 have b02 : Below w.heap.size w W2 := hb1.trans (b12.mono hb1.size)
 rw [← hW2]
 have hzw : w.heap.size ≤ w1.heap.size := hb1.size
 have hzb : ¬ V w1.heap.size := fun hv => by have := H.out.1.ul _ (H.out.1.vu _ hv); omega
 have hto2 : CTo fb w p V U C W2 V (fun b => U b ∨ b = w1.heap.size) m := by
  refine ⟨H.out.1.wide (fun b hb => .inl hb) (fun b hl hb => hb.elim id fun e => by omega) (fun b hl _ => b02.block b hl) b02.size (fun b hb => hb.elim (fun h9 => Nat.lt_of_lt_of_le (H.out.1.ul b h9) b02.size) fun e => e ▸ z2.lt), fun _ h => .inl h, fun _ h => .inl h, fun b hb => hb.elim .inl fun e => .inr (by omega), Kept.of_new b02⟩
 have hla := fun W (hb : Below W2.heap.size W2 W) => clast_any (hto2.cx.below hb) H.out.2.2.2.2.2.2.1 H.out.2.1.may
 have F2 : Hid (∀ W, Below W2.heap.size W2 W → W.cell? ⟨w1.heap.size, 1, none⟩ = some (.int .i64 q.mt)) := Lib.hid fun W hb => (z2.below hb).c 1
 have c1 : W2.cell? ⟨w1.heap.size, 1, none⟩ = some (.int .i64 q.mt) := z2.c 1
 have K2 := Lib.hid (And.intro z2 (And.intro hto2 (And.intro hzw (And.intro hzb b02))))
 have Hla := Lib.hid hla
 clear hW2 z2 b12 b02 hzw hzb hto2 hla hb1
 go_upto_region 3 with (fail)
 refine wp_region_S 8 (fun W => Below W2.heap.size W2 W) (.take 0 (.take 1 (.take 2 (.take 3 (.one 4 (.one 5 (.one 6 (.take 7 (.one 8 (.nil)))))))))) (by kernel_rfl) (Below.refl _ _).drew (fun _ _ _ _ h => h) (fun hS => ?_)
 repeat (first
  | (refine wpS_take (v := ?_) rfl rfl (by rfl) ?_ ?_; rotate_left; (intro W hW; have hf := F2.out W hW; go_split_ands; go_simp; try with_reducible rfl); try simp only [Act.put, lyA, lyB, lyC])
  | (refine wpS_skip rfl rfl (by rfl) ?_; try simp only [Act.put, lyA, lyB, lyC]))
 refine wpS_one rfl (by rfl) (fun K hK => ?_)
 go_simp
 go_at_call 55
 refine (Hla.out _ hS).mono ?_
 rintro e w3 ⟨rfl, hb3⟩
 have hS3 : Below W2.heap.size W2 w3 := (Below.refl _ _).drew.trans hb3
 clear hb3
 refine hK (fun W => Below W2.heap.size W2 W) _ _ (fun _ h => h) hS3 ?_
 clear hK K
 try simp only [Act.put, lyA, lyB, lyC]
 refine wpS_one rfl (by rfl) (fun K hK => ?_)
 go_simp
 refine hK (fun W => Below W2.heap.size W2 W) _ _ (fun _ h => h) hS3 ?_
 clear hK K
 try simp only [Act.put, lyA, lyB, lyC]
 refine wpS_one rfl (by rfl) (fun K hK => ?_)
 go_simp
 refine hK (fun W => Below W2.heap.size W2 W) _ _ (fun _ h => h) hS3 ?_
 clear hK K
 try simp only [Act.put, lyA, lyB, lyC]
 repeat (first
  | (refine wpS_take (v := ?_) rfl rfl (by rfl) ?_ ?_; rotate_left; (intro W hW; have hf := F2.out W hW; go_split_ands; go_simp; try with_reducible rfl); try simp only [Act.put, lyA, lyB, lyC])
  | (refine wpS_skip rfl rfl (by rfl) ?_; try simp only [Act.put, lyA, lyB, lyC]))
 have g1 : w3.cell? ⟨w1.heap.size, 1, none⟩ = some (.int .i64 q.mt) := F2.out w3 hS3
 have f1 : w3.frozen? ⟨w1.heap.size, 1, none⟩ = false := (K2.out.1.below hS3).f 1
 refine wpS_last rfl (by rfl) (fun K hK => ?_)
 go_simp
 refine hK _ _ ?_
 clear hK K
 try simp only [Act.put, lyA, lyB, lyC]
 refine wpS_nil ?_
 obtain ⟨W4, hW4⟩ : ∃ W4, W4 = w3.setCell ⟨w1.heap.size, 1, none⟩ (.int .i64 mt2) := ⟨_, rfl⟩
 have z4 : Bx W4 w1.heap.size #[.int .i64 q.nx, .int .i64 mt2, .int .i64 q.of, .int .i64 q.rd] := by subst hW4; exact (K2.out.1.below hS3).set 1 _
 have hto4 : CTo fb w p V U C W4 V (fun b => U b ∨ b = w1.heap.size) m := by subst hW4; exact (K2.out.2.1.below hS3).side ⟨.inr rfl, K2.out.2.2.2.1⟩ K2.out.2.2.1 _
 try rw [hmt']
 rw [← hW4]
 have h0 : W4.cell? ⟨w1.heap.size, 0, none⟩ = some (.int .i64 q.nx) := z4.c 0
 have h1 : W4.cell? ⟨w1.heap.size, 1, none⟩ = some (.int .i64 mt2) := z4.c 1
 have f0 := z4.f 0
 have K4 := Lib.hid (And.intro z4 hto4)
 clear hW4 z4 hto4 g1 f1 hS hS3 c1
 go_upto_region 5 with (fail)
 obtain ⟨W5, hW5⟩ : ∃ W5, W5 = W4.setCell ⟨w1.heap.size, 0, none⟩ (.int .i64 nx2) := ⟨_, rfl⟩
 have z5 : Bx W5 w1.heap.size #[.int .i64 nx2, .int .i64 mt2, .int .i64 q.of, .int .i64 q.rd] := by subst hW5; exact K4.out.1.set 0 _
 have hto5 : CTo fb w p V U C W5 V (fun b => U b ∨ b = w1.heap.size) m := by subst hW5; exact K4.out.2.side ⟨.inr rfl, K2.out.2.2.2.1⟩ K2.out.2.2.1 _
 try rw [hnx']
 rw [← hW5]
 have F5 : Hid (∀ W, Below W5.heap.size W5 W → W.cell? ⟨p, 16, none⟩ = some (.map (some m.q)) ∧ (W.cell? ⟨w1.heap.size, 0, none⟩ = some (.int .i64 nx2) ∧ W.cell? ⟨w1.heap.size, 1, none⟩ = some (.int .i64 mt2) ∧ W.cell? ⟨w1.heap.size, 2, none⟩ = some (.int .i64 q.of) ∧ W.cell? ⟨w1.heap.size, 3, none⟩ = some (.int .i64 q.rd))) := Lib.hid fun W hb =>
  ⟨(hto5.cx.below hb).bx.c 16, (z5.below hb).c 0, (z5.below hb).c 1, (z5.below hb).c 2, (z5.below hb).c 3⟩
 obtain ⟨w6, hrun, hp6, hg6⟩ := (hto5.cx.drew).pm.put H.out.2.2.2.1 ⟨nx2, mt2, q.of, q.rd⟩
 unfold peV at hrun
 have K5 := Lib.hid (And.intro z5 (And.intro hto5 (And.intro hp6 hg6)))
 clear hW5 z5 hto5 hp6 hg6 h0 h1 f0
 refine wp_region_S 6 (fun W => Below W5.heap.size W5 W) (.take 0 (.take 1 (.take 2 (.take 3 (.take 4 (.take 5 (.one 6 (.nil)))))))) (by kernel_rfl) (Below.refl _ _).drew (fun _ _ _ _ h => h) (fun hS => ?_)
 repeat (first
  | (refine wpS_take (v := ?_) rfl rfl (by rfl) ?_ ?_; rotate_left; (intro W hW; have hf := F5.out W hW; go_split_ands; go_simp; try with_reducible rfl); try simp only [Act.put, lyA, lyB, lyC])
  | (refine wpS_skip rfl rfl (by rfl) ?_; try simp only [Act.put, lyA, lyB, lyC]))
 refine wpS_last rfl (by rfl) (fun K hK => ?_)
 go_simp
 refine hK _ _ ?_
 clear hK K
 try simp only [Act.put, lyA, lyB, lyC]
 refine wpS_nil ?_
 have hto6 : CTo fb w p V U (C.put who ⟨nx2, mt2, q.of, q.rd⟩) w6 V (fun b => U b ∨ b = w1.heap.size) m := K5.out.2.1.drew.remap ((Kept.refl _ _).grown K5.out.2.2.2 fun b e => by injection e with e; exact e.symm) K5.out.2.2.1
 have hqz : w1.heap.size ≠ m.q := fun e => K2.out.2.2.2.1 (e ▸ H.out.1.vq)
 have z6 : Bx w6 w1.heap.size #[.int .i64 nx2, .int .i64 mt2, .int .i64 q.of, .int .i64 q.rd] := K5.out.1.drew.keep (K5.out.2.2.2.block _ K5.out.1.lt fun e => hqz (Option.some.inj e))
 have hen6 : Env fb w6 := H.out.2.2.1.kept hto6.kept H.out.1.vf
 have hadv := adv_any hto6.cx H.out.2.2.2.2.2.2.2.1 hen6
 rw [H.out.2.2.2.2.2.2.2.2] at hadv
 have K6 := Lib.hid (And.intro z6 (And.intro hto6 hen6))
 have Hadv := Lib.hid hadv
 clear hto6 hqz z6 hen6 hadv hrun hS
 go_wp2_with fail
 refine Hadv.out.mono ?_
 intro e w7 h7
 obtain ⟨A7, n7, c7, X7, rfl, r7, x7, t7⟩ := h7
 have z7 : Bx w7 w1.heap.size #[.int .i64 nx2, .int .i64 mt2, .int .i64 q.of, .int .i64 q.rd] := K6.out.1.keep (t7.kept.block _ K6.out.1.lt K2.out.2.2.2.1)
 have hok7 : R.1.Ok k := by rw [← H.out.2.2.2.2.2.2.2.2]; exact H.out.2.2.2.2.2.2.2.1.advance
 have hkp : R.1.hv = C.hv := by rw [← H.out.2.2.2.2.2.2.2.2]; exact (advance_keep _).1
 have hl7 : n7 ≤ 7 := by
  have h1 := r7.len
  have h2 := congrArg List.length x7
  rw [List.length_map] at h2
  have h3 := advance_len H.out.2.2.2.2.2.2.2.1
  rw [H.out.2.2.2.2.2.2.2.2] at h3
  omega
 have hA7 := own_lt r7.ow
 have hcx7 : CX fb w7 p V (fun b => (U b ∨ b = w1.heap.size) ∨ A7.map (·.block) = some b) R.1 m := K6.out.2.1.cx.widenV t7.cx t7.kept (fun b hb => hA7 b hb) hkp
 have hto7 : CTo fb w p V U R.1 w7 V (fun b => (U b ∨ b = w1.heap.size) ∨ A7.map (·.block) = some b) m := by
  have h9 := K6.out.2.1.trans t7
  exact ⟨hcx7, h9.vs, fun b hb => .inl (.inl hb), fun b hb => hb.elim (h9.un b) fun h8 => .inr (by have := (hA7 b h8).1; have := K6.out.2.1.kept.size; omega), h9.kept⟩
 have hen7 : Env fb w7 := H.out.2.2.1.kept hto7.kept H.out.1.vf
 have hft7 := hcx7.fit hok7
 have outR : ∀ w', Below w7.heap.size w7 w' → OutPost fb w p V U R (.returned (.slice A7 n7 c7)) w' := fun w' hb => by
  have r9 := (r7.below hb).mono (B' := w.heap.size) K6.out.2.1.kept.size
  refine ⟨A7, n7, c7, X7, V, _, m, rfl, r9, x7, fun y hy => ((r7.dt y hy).below hb).mono fun b hb2 hu => ?_, hto7.below hb⟩
  rcases hu with hu | hu
  ·have h8 := K6.out.2.1.cx.ul b hu
   have := hb2.1
   omega
  ·exact hb2.2 hu
 have hrw : R.1.role = 2 ∨ R.1.role ≠ 2 := by omega
 have c7r : ∀ W, Below w7.heap.size w7 W → W.cell? ⟨p, 7, none⟩ = some (.int .i64 R.1.role) ∧ W.cell? ⟨w1.heap.size, 0, none⟩ = some (.int .i64 nx2) ∧ W.cell? ⟨w1.heap.size, 1, none⟩ = some (.int .i64 mt2) := fun W hb => ⟨(hcx7.below hb).bx.c 7, (z7.below hb).c 0, (z7.below hb).c 1⟩
 have F7 := Lib.hid c7r
 have hla7 := fun W (hb : Below w7.heap.size w7 W) => clast_any (hcx7.below hb) hft7 hok7.may
 have hsd := fun W (hb : Below w7.heap.size w7 W) => send_any who (hcx7.below hb) hok7 (hen7.new hb) H.out.2.2.2.1
 have Hla7 := Lib.hid hla7
 have Hsd := Lib.hid hsd
 have OR := Lib.hid outR
 have K7 := Lib.hid (And.intro r7 (And.intro x7 (And.intro hto7 (And.intro hl7 (And.intro hA7 t7.kept.size)))))
 clear z7 hok7 hkp hl7 hA7 hcx7 hto7 hen7 hft7 outR c7r hla7 hsd r7 x7 t7
 obtain ⟨Rl, hRl⟩ : ∃ z, R.1.last = z := ⟨_, rfl⟩
 have HRl := Lib.hid hRl
 rw [hRl] at Hla7
 clear hRl
 have ff := HF.out
 rw [HRl.out] at ff
 have FFF := Lib.hid ff
 clear ff
 go_upto_region 7 with (fail)
 by_cases r2 : R.1.role = 2
 ·have r2' : (R.1.role == 2) = true := by simpa using r2
  by_cases hlt : q.mt < mt2
  ·have hlt' : decide (q.mt < mt2) = true := decide_eq_true hlt
   by_cases hnl : nx2 ≤ Rl
   ·have hnl' : decide (nx2 ≤ Rl) = true := decide_eq_true hnl
    have eF := FFF.out
    rw [if_pos ⟨r2, hlt, hnl⟩] at eF
    have EF := Lib.hid eF
    clear eF r2 hlt hnl
    refine wp_region_S 18 (fun W => Below w7.heap.size w7 W) (.take 0 (.take 1 (.take 2 (.take 3 (.take 4 (.take 5 (.take 6 (.take 7 (.take 8 (.take 9 (.take 10 (.take 11 (.take 12 (.take 13 (.take 14 (.take 15 (.one 16 (.take 17 (.one 18 (.nil)))))))))))))))))))) (by kernel_rfl) (Below.refl _ _).drew (fun _ _ _ _ h => h) (fun hS => ?_)
    repeat (first
     | (refine wpS_take (v := ?_) rfl rfl (by rfl) ?_ ?_; rotate_left; (intro W hW; have hf := F7.out W hW; go_split_ands; go_simp; try with_reducible rfl); try simp only [Act.put, lyA, lyB, lyC])
     | (refine wpS_skip rfl rfl (by rfl) ?_; try simp only [Act.put, lyA, lyB, lyC]))
    refine wpS_one rfl (by rfl) (fun K hK => ?_)
    go_simp
    go_at_call 55
    refine (Hla7.out _ hS).mono ?_
    rintro e w8 ⟨rfl, hb8⟩
    have hS8 : Below w7.heap.size w7 w8 := (Below.refl _ _).drew.trans hb8
    clear hb8
    refine hK (fun W => Below w7.heap.size w7 W) _ _ (fun _ h => h) hS8 ?_
    clear hK K
    try simp only [Act.put, lyA, lyB, lyC]
    repeat (first
     | (refine wpS_take (v := ?_) rfl rfl (by rfl) ?_ ?_; rotate_left; (intro W hW; have hf := F7.out W hW; go_split_ands; go_simp; try with_reducible rfl); try simp only [Act.put, lyA, lyB, lyC])
     | (refine wpS_skip rfl rfl (by rfl) ?_; try simp only [Act.put, lyA, lyB, lyC]))
    refine wpS_last rfl (by rfl) (fun K hK => ?_)
    go_simp
    refine hK _ _ ?_
    clear hK K
    try simp only [Act.put, lyA, lyB, lyC]
    refine wpS_nil ?_
    have S8 := Lib.hid hS8
    have Hsd8 := Lib.hid (Hsd.out w8 hS8)
    clear hS hS8
    go_wp2_with fail
    refine Hsd8.out.mono ?_
    intro e w9 h9
    obtain ⟨y, rfl, ms9, at9, hb9⟩ := h9
    have b79 : Below w7.heap.size w7 w9 := S8.out.trans (hb9.mono S8.out.size)
    have hbs : w6.heap.size ≤ w9.heap.size := Nat.le_trans K7.out.2.2.2.2.2 b79.size
    have K9 := Lib.hid (And.intro ms9 (And.intro at9 (And.intro b79 (And.intro hbs S8.out.size))))
    clear ms9 at9 hb9 b79 hbs
    unfold Mr.val
    go_wp2_with (at_builtin; refine wpList_append_any (news := mcell y) _ Tryz.underlying54 msg_elem rfl (by omega) rfl rfl rfl ((K7.out.1.below K9.out.2.2.1).alloc _).ow rfl (show Rd _ _ 12 _ 1 (mcell y) from Rd.blit1 (cs := y.cells) rfl) (by intro u hu; exact mcell_one [y] u (by simpa [flat] using hu)) (by have := K7.out.2.2.2.1; omega) (by have := K9.out.2.2.2.1; simp; omega) rfl rfl ?_; intro A10 c10 w10 o10 g10 a10)
    have O10 := Lib.hid (And.intro o10 (And.intro g10 a10))
    clear o10 g10 a10
    go_wp2_with fail
    go_ret
    rw [← EF.out]
    have hA7 := K7.out.2.2.2.2.1
    have hal : ∀ o, Below w9.heap.size w9 (w9.alloc o) := fun o => (Below.refl _ _).alloc (Nat.le_refl _) o
    have hto9 := (K7.out.2.2.1.below K9.out.2.2.1).below (hal (.cells y.cells 78))
    have hrow : ∀ b, A7.map (·.block) = some b → ((U b ∨ b = w1.heap.size) ∨ A7.map (·.block) = some b) ∧ ¬ V b ∧ w.heap.size ≤ b := fun b hb => ⟨.inr hb, fun hv => by have h1 := H.out.1.ul b (H.out.1.vu b hv); have h2 := (hA7 b hb).1; have h3 := K6.out.2.1.kept.size; omega, by have h2 := (hA7 b hb).1; have h3 := K6.out.2.1.kept.size; omega⟩
    have hto10 := hto9.rowed O10.out.2.1 hrow
    have hy9 : y.At (w9.alloc (.cells y.cells 78)) (fun b => w6.heap.size ≤ b ∧ A7.map (·.block) ≠ some b) := (K9.out.2.1.mono fun b hb => ⟨by have h1 := K7.out.2.2.2.2.2; have h2 := K9.out.2.2.2.2; omega, fun e => by have h1 := (hA7 b e).2; have h2 := K9.out.2.2.2.2; omega⟩).below (hal _)
    have r10 := ((K7.out.1.below K9.out.2.2.1).alloc (.cells y.cells 78)).push hy9 O10.out.1 O10.out.2.1 O10.out.2.2
    have hkeep : ∀ z : Mr, z.At (w9.alloc (.cells y.cells 78)) (fun b => w6.heap.size ≤ b ∧ A7.map (·.block) ≠ some b) → z.At w10 (fun b => ¬ ((U b ∨ b = w1.heap.size) ∨ A7.map (·.block) = some b)) := fun z hz => (hz.keep fun b hb hl => O10.out.2.1.block b hl fun e => hb.2 e.symm).mono fun b hb hu => by
     rcases hu with hu | hu
     ·have h8 := K6.out.2.1.cx.ul b hu
      have := hb.1
      omega
     ·exact hb.2 hu
    refine ⟨A10, n7 + 1, c10, X7 ++ [y], V, _, m, rfl, r10.mono K6.out.2.1.kept.size, ?_, fun z hz => ?_, hto10⟩
    ·rw [List.map_append, K7.out.2.1]
     show _ ++ [y.ms] = _
     rw [K9.out.1]
    ·rcases List.mem_append.1 hz with hz | hz
     ·exact hkeep z (((K7.out.1.dt z hz).below K9.out.2.2.1).below (hal _))
     ·rw [List.mem_singleton.1 hz]
      exact hkeep y hy9
   ·have hnl' : decide (nx2 ≤ Rl) = false := decide_eq_false hnl
    have eF := FFF.out
    rw [if_neg (fun h => hnl h.2.2)] at eF
    have EF := Lib.hid eF
    clear eF
    refine wp_region_S 18 (fun W => Below w7.heap.size w7 W) (.take 0 (.take 1 (.take 2 (.take 3 (.take 4 (.take 5 (.take 6 (.take 7 (.take 8 (.take 9 (.take 10 (.take 11 (.take 12 (.take 13 (.take 14 (.take 15 (.one 16 (.take 17 (.one 18 (.nil)))))))))))))))))))) (by kernel_rfl) (Below.refl _ _).drew (fun _ _ _ _ h => h) (fun hS => ?_)
    repeat (first
     | (refine wpS_take (v := ?_) rfl rfl (by rfl) ?_ ?_; rotate_left; (intro W hW; have hf := F7.out W hW; go_split_ands; go_simp; try with_reducible rfl); try simp only [Act.put, lyA, lyB, lyC])
     | (refine wpS_skip rfl rfl (by rfl) ?_; try simp only [Act.put, lyA, lyB, lyC]))
    refine wpS_one rfl (by rfl) (fun K hK => ?_)
    go_simp
    go_at_call 55
    refine (Hla7.out _ hS).mono ?_
    rintro e w8 ⟨rfl, hb8⟩
    have hS8 : Below w7.heap.size w7 w8 := (Below.refl _ _).drew.trans hb8
    clear hb8
    refine hK (fun W => Below w7.heap.size w7 W) _ _ (fun _ h => h) hS8 ?_
    clear hK K
    try simp only [Act.put, lyA, lyB, lyC]
    repeat (first
     | (refine wpS_take (v := ?_) rfl rfl (by rfl) ?_ ?_; rotate_left; (intro W hW; have hf := F7.out W hW; go_split_ands; go_simp; try with_reducible rfl); try simp only [Act.put, lyA, lyB, lyC])
     | (refine wpS_skip rfl rfl (by rfl) ?_; try simp only [Act.put, lyA, lyB, lyC]))
    refine wpS_last rfl (by rfl) (fun K hK => ?_)
    go_simp
    refine hK _ _ ?_
    clear hK K
    try simp only [Act.put, lyA, lyB, lyC]
    refine wpS_nil ?_
    have S8 := Lib.hid hS8
    clear hS8
    clear hS
    go_wp2_with fail
    go_ret
    rw [← EF.out]
    exact OR.out _ S8.out
  ·have hlt' : decide (q.mt < mt2) = false := decide_eq_false hlt
   have eF := FFF.out
   rw [if_neg (fun h => hlt h.2.1)] at eF
   have EF := Lib.hid eF
   clear eF
   refine wp_region_S 18 (fun W => Below w7.heap.size w7 W) (.take 0 (.take 1 (.take 2 (.take 3 (.take 4 (.take 5 (.take 6 (.take 7 (.take 8 (.take 9 (.take 10 (.take 11 (.take 12 (.take 13 (.take 14 (.take 15 (.one 16 (.take 17 (.one 18 (.nil)))))))))))))))))))) (by kernel_rfl) (Below.refl _ _).drew (fun _ _ _ _ h => h) (fun hS => ?_)
   repeat (first
    | (refine wpS_take (v := ?_) rfl rfl (by rfl) ?_ ?_; rotate_left; (intro W hW; have hf := F7.out W hW; go_split_ands; go_simp; try with_reducible rfl); try simp only [Act.put, lyA, lyB, lyC])
    | (refine wpS_skip rfl rfl (by rfl) ?_; try simp only [Act.put, lyA, lyB, lyC]))
   refine wpS_pass rfl rfl (by rfl) ?_
   try simp only [Act.put, lyA, lyB, lyC]
   repeat (first
    | (refine wpS_take (v := ?_) rfl rfl (by rfl) ?_ ?_; rotate_left; (intro W hW; have hf := F7.out W hW; go_split_ands; go_simp; try with_reducible rfl); try simp only [Act.put, lyA, lyB, lyC])
    | (refine wpS_skip rfl rfl (by rfl) ?_; try simp only [Act.put, lyA, lyB, lyC]))
   refine wpS_last rfl (by rfl) (fun K hK => ?_)
   go_simp
   refine hK _ _ ?_
   clear hK K
   try simp only [Act.put, lyA, lyB, lyC]
   refine wpS_nil ?_
   clear hS
   go_wp2_with fail
   go_ret
   rw [← EF.out]
   exact OR.out _ (Below.refl _ _).drew
 ·have r2' : (R.1.role == 2) = false := by simpa using r2
  have eF := FFF.out
  rw [if_neg (fun h => r2 h.1)] at eF
  have EF := Lib.hid eF
  clear eF
  refine wp_region_S 18 (fun W => Below w7.heap.size w7 W) (.take 0 (.take 1 (.take 2 (.take 3 (.take 4 (.take 5 (.take 6 (.take 7 (.take 8 (.take 9 (.take 10 (.take 11 (.take 12 (.take 13 (.take 14 (.take 15 (.one 16 (.take 17 (.one 18 (.nil)))))))))))))))))))) (by kernel_rfl) (Below.refl _ _).drew (fun _ _ _ _ h => h) (fun hS => ?_)
  repeat (first
   | (refine wpS_take (v := ?_) rfl rfl (by rfl) ?_ ?_; rotate_left; (intro W hW; have hf := F7.out W hW; go_split_ands; go_simp; try with_reducible rfl); try simp only [Act.put, lyA, lyB, lyC])
   | (refine wpS_skip rfl rfl (by rfl) ?_; try simp only [Act.put, lyA, lyB, lyC]))
  refine wpS_pass rfl rfl (by rfl) ?_
  try simp only [Act.put, lyA, lyB, lyC]
  repeat (first
   | (refine wpS_take (v := ?_) rfl rfl (by rfl) ?_ ?_; rotate_left; (intro W hW; have hf := F7.out W hW; go_split_ands; go_simp; try with_reducible rfl); try simp only [Act.put, lyA, lyB, lyC])
   | (refine wpS_skip rfl rfl (by rfl) ?_; try simp only [Act.put, lyA, lyB, lyC]))
  refine wpS_last rfl (by rfl) (fun K hK => ?_)
  go_simp
  refine hK _ _ ?_
  clear hK K
  try simp only [Act.put, lyA, lyB, lyC]
  refine wpS_nil ?_
  clear hS
  go_wp2_with fail
  go_ret
  rw [← EF.out]
  exact OR.out _ (Below.refl _ _).drew
theorem told_ok {C : Cr} {x : Ms} (h : x.ok = true) : C.told x = (C.put x.fr { C.of x.fr with rd := max (C.of x.fr).rd x.rd }).has x.fr x.ix := by
 unfold Cr.told
 dsimp only
 rw [if_pos h]
def Cr.back (C : Cr) (fr : Int) (p : Pe) : Cr × List Ms := (C.put fr p, [(C.put fr p).send fr])
theorem told_no {C : Cr} {x : Ms} (h : x.ok = false) (hk : x.kind = 4) : C.told x = (C.put x.fr { C.of x.fr with rd := max (C.of x.fr).rd x.rd }).back x.fr { C.of x.fr with rd := max (C.of x.fr).rd x.rd, nx := max ((C.of x.fr).mt + 1) (min (x.ix + 1) ((C.of x.fr).nx - 1)), of := 0 } := by
 unfold Cr.told
 dsimp only
 rw [if_neg (by rw [h]; decide), if_pos hk]
 rfl
theorem told_off {C : Cr} {x : Ms} (h : x.ok = false) (hk : ¬ x.kind = 4) (hc : x.ix ≠ C.s.b ∨ C.s.b < (C.of x.fr).nx) : C.told x = (C.put x.fr { C.of x.fr with rd := max (C.of x.fr).rd x.rd }, []) := by
 unfold Cr.told
 dsimp only
 rw [if_neg (by rw [h]; decide), if_neg hk]
 exact if_pos hc
theorem told_piece {C : Cr} {x : Ms} (h : x.ok = false) (hk : ¬ x.kind = 4) (hc : ¬ (x.ix ≠ C.s.b ∨ C.s.b < (C.of x.fr).nx)) : C.told x = (C.put x.fr { C.of x.fr with rd := max (C.of x.fr).rd x.rd }).back x.fr { C.of x.fr with rd := max (C.of x.fr).rd x.rd, of := if x.off < C.handed.length then x.off else 0 } := by
 unfold Cr.told
 dsimp only
 rw [if_neg (by rw [h]; decide), if_neg hk]
 exact (if_neg hc).trans rfl
set_option maxHeartbeats 25600000 in
theorem told_any {fb p : Nat} {w : World} {V U : Nat → Prop} {C : Cr} {m : Mb} {k : Nat} (x : Mr) (h : CX fb w p V U C m) (ho : C.Ok k) (he : Env fb w) (hmay : x.ms.may = true) :
  Calls Tryz.prog 71 #[.pointer (some ⟨p, 0, none⟩), x.val] w (OutPost fb w p V U (C.told x.ms)) := by
 obtain ⟨W0, hW0⟩ : ∃ W0, W0 = w.alloc (.cells x.cells 78) := ⟨_, rfl⟩
 have b0 : Bx W0 w.heap.size x.cells := by subst hW0; exact Bx.new _ _ _ rfl
 have hbe : Below w.heap.size w W0 := by subst hW0; exact (Below.refl _ _).alloc (Nat.le_refl _) _
 have hz0 : W0.heap.size = w.heap.size + 1 := by subst hW0; simp
 have hl := ho.last
 obtain ⟨_, ⟨hfr1, hfr2⟩, _, _, ⟨hix1, hix2⟩, _, _, ⟨hrd1, hrd2⟩, ⟨hof1, hof2⟩, _⟩ := Ms.may_in hmay
 have hfr1 : 1 ≤ x.fr := hfr1
 have hfr2 : x.fr ≤ 64 := hfr2
 have hix1 : 0 ≤ x.ix := hix1
 have hix2 : x.ix ≤ 1099511627776 := hix2
 have hrd1 : 0 ≤ x.rd := hrd1
 have hrd2 : x.rd ≤ 1099511627776 := hrd2
 have hof1 : 0 ≤ x.off := hof1
 have hof2 : x.off ≤ 1099511627776 := hof2
 have hof := of_any x.fr (h.below hbe) (h.fit ho) ho.may (by unfold I64; omega) (by omega) (by omega)
 have hqo := ho.of x.fr
 obtain ⟨R, hR⟩ : ∃ R, C.told x.ms = R := ⟨_, rfl⟩
 have HR := Lib.hid hR
 rw [hR]
 obtain ⟨q, hq⟩ : ∃ q, C.of x.fr = q := ⟨_, rfl⟩
 have HQ := Lib.hid (show C.of x.ms.fr = q from hq)
 rw [hq] at hof hqo
 obtain ⟨rd2, hrd⟩ : ∃ z, max q.rd x.rd = z := ⟨_, rfl⟩
 have hq1 := hqo.nx
 have hq2 := hqo.mt
 have hq3 := hqo.of
 have hq4 := hqo.rd
 have hp1 : (⟨q.nx, q.mt, q.of, rd2⟩ : Pe).Ok := ⟨hq1, hq2, hq3, by show 0 ≤ rd2 ∧ rd2 ≤ _; omega⟩
 have hok1 : (C.put x.fr ⟨q.nx, q.mt, q.of, rd2⟩).Ok k := ho.put ⟨hfr1, hfr2⟩ hp1
 obtain ⟨C1, hC1⟩ : ∃ C1, C.put x.fr ⟨q.nx, q.mt, q.of, rd2⟩ = C1 := ⟨_, rfl⟩
 rw [hC1] at hok1
 have eC1 : C.put x.ms.fr { C.of x.ms.fr with rd := max (C.of x.ms.fr).rd x.ms.rd } = C1 := by
  rw [HQ.out, ← hC1, ← hrd]
  rfl
 have eb1 : C1.s = C.s := by rw [← hC1]; rfl
 have H := Lib.hid (And.intro h (And.intro ho (And.intro he (And.intro hbe (And.intro hz0 (And.intro b0 (And.intro hok1 (And.intro hC1 (And.intro eC1 eb1)))))))))
 have QB := Lib.hid (And.intro hq1 (And.intro hq2 (And.intro hq3 (And.intro hq4 (And.intro hrd hp1.rd)))))
 have XB := Lib.hid (And.intro (And.intro hfr1 hfr2) (And.intro (And.intro hix1 hix2) (And.intro hof1 hof2)))
 have HW := Lib.hid hW0
 have Hof := Lib.hid hof
 have hrd' : max q.rd x.rd = rd2 := hrd
 have d1 : W0.cell? ⟨w.heap.size, 1, none⟩ = some (.int .i64 x.fr) := b0.c 1
 clear hW0 b0 hbe hz0 h ho he hof hqo hq hrd hp1 hok1 hC1 eC1 eb1 hR hq1 hq2 hq3 hq4 hl hmay hfr1 hfr2 hix1 hix2 hrd1 hrd2 hof1 hof2
 unfold Mr.val
 go_enter Tryz.func71, Tryz.ntmps71
 go_upto_region 1 with (fail)
 have HW' := HW.out
 unfold Mr.cells at HW'
 rw [← HW']
 clear HW'
 go_wp2_with fail
 refine Hof.out.mono ?_
 rintro e w1 ⟨rfl, hb1⟩
 unfold peV
 go_upto_region 2 with (fail)
 obtain ⟨W2, hW2⟩ : ∃ W2, W2 = w1.alloc (.cells #[.int .i64 q.nx, .int .i64 q.mt, .int .i64 q.of, .int .i64 q.rd] 130) := ⟨_, rfl⟩
 have z2 : Bx W2 w1.heap.size #[.int .i64 q.nx, .int .i64 q.mt, .int .i64 q.of, .int .i64 q.rd] := by subst hW2; exact Bx.new w1 _ 130 rfl
 have b12 : Below w1.heap.size w1 W2 := by subst hW2; exact (Below.refl _ _).alloc (Nat.le_refl _) _
 have b02 : Below W0.heap.size W0 W2 := hb1.trans (b12.mono hb1.size)
 have bw2 : Below w.heap.size w W2 := H.out.2.2.2.1.trans (b02.mono H.out.2.2.2.1.size)
 rw [← hW2]
 have hzw : w.heap.size < w1.heap.size := by have := hb1.size; have := H.out.2.2.2.2.1; omega
 have hzb : ¬ V w1.heap.size := fun hv => by have := H.out.1.ul _ (H.out.1.vu _ hv); omega
 have hto2 : CTo fb w p V U C W2 V (fun b => U b ∨ b = w1.heap.size) m := by
  refine ⟨H.out.1.wide (fun b hb => .inl hb) (fun b hl hb => hb.elim id fun e => by omega) (fun b hl _ => bw2.block b hl) bw2.size (fun b hb => hb.elim (fun h9 => Nat.lt_of_lt_of_le (H.out.1.ul b h9) bw2.size) fun e => e ▸ z2.lt), fun _ h => .inl h, fun _ h => .inl h, fun b hb => hb.elim .inl fun e => .inr (by omega), Kept.of_new bw2⟩
 have hx2 := H.out.2.2.2.2.2.1.below b02
 have c3 : W2.cell? ⟨w1.heap.size, 3, none⟩ = some (.int .i64 q.rd) := z2.c 3
 have f3 := z2.f 3
 have d7 : W2.cell? ⟨w.heap.size, 7, none⟩ = some (.int .i64 x.rd) := hx2.c 7
 have K2 := Lib.hid (And.intro z2 (And.intro hto2 (And.intro hzw (And.intro hzb hx2))))
 clear hW2 z2 b12 b02 bw2 hzw hzb hto2 hb1 hx2 d1
 go_upto_region 3 with (fail)
 obtain ⟨W3, hW3⟩ : ∃ W3, W3 = W2.setCell ⟨w1.heap.size, 3, none⟩ (.int .i64 rd2) := ⟨_, rfl⟩
 have z3 : Bx W3 w1.heap.size #[.int .i64 q.nx, .int .i64 q.mt, .int .i64 q.of, .int .i64 rd2] := by subst hW3; exact K2.out.1.set 3 _
 have hto3 : CTo fb w p V U C W3 V (fun b => U b ∨ b = w1.heap.size) m := by subst hW3; exact K2.out.2.1.side ⟨.inr rfl, K2.out.2.2.2.1⟩ (Nat.le_of_lt K2.out.2.2.1) _
 have hx3 : Bx W3 w.heap.size x.cells := by subst hW3; exact K2.out.2.2.2.2.keep (heap_set_ne (by have := K2.out.2.2.1; omega))
 try rw [hrd']
 rw [← hW3]
 have K3 := Lib.hid (And.intro z3 (And.intro hto3 hx3))
 clear hW3 z3 hto3 hx3 c3 f3 d7
 have F6 : Hid (∀ W', Below W3.heap.size W3 W' → (W'.cell? ⟨p, 16, none⟩ = some (.map (some m.q)) ∧ W'.cell? ⟨w.heap.size, 1, none⟩ = some (.int .i64 x.fr)) ∧ (W'.cell? ⟨w1.heap.size, 0, none⟩ = some (.int .i64 q.nx) ∧ W'.cell? ⟨w1.heap.size, 1, none⟩ = some (.int .i64 q.mt) ∧ W'.cell? ⟨w1.heap.size, 2, none⟩ = some (.int .i64 q.of) ∧ W'.cell? ⟨w1.heap.size, 3, none⟩ = some (.int .i64 rd2))) := Lib.hid fun W' hb =>
  ⟨⟨((K3.out.2.1).cx.below hb).bx.c 16, ((K3.out.2.2).below hb).c 1⟩, ((K3.out.1).below hb).c 0, ((K3.out.1).below hb).c 1, ((K3.out.1).below hb).c 2, ((K3.out.1).below hb).c 3⟩
 obtain ⟨w6, hrun6, hp6, hg6⟩ := ((K3.out.2.1).cx.drew).pm.put XB.out.1 ⟨q.nx, q.mt, q.of, rd2⟩
 unfold peV at hrun6
 have G6 := Lib.hid (And.intro hp6 hg6)
 clear hp6 hg6
 refine wp_region_S 7 (fun W' => Below W3.heap.size W3 W') (.take 0 (.take 1 (.take 2 (.take 3 (.take 4 (.take 5 (.take 6 (.one 7 (.nil))))))))) (by kernel_rfl) (Below.refl _ _).drew (fun _ _ _ _ h => h) (fun hS => ?_)
 repeat (first
  | (refine wpS_take (v := ?_) rfl rfl (by rfl) ?_ ?_; rotate_left; (intro W hW; have hf := F6.out W hW; go_split_ands; go_simp; try with_reducible rfl); try simp only [Act.put, lyA, lyB, lyC])
  | (refine wpS_skip rfl rfl (by rfl) ?_; try simp only [Act.put, lyA, lyB, lyC]))
 refine wpS_last rfl (by rfl) (fun K hK => ?_)
 go_simp
 refine hK _ _ ?_
 clear hK K
 try simp only [Act.put, lyA, lyB, lyC]
 refine wpS_nil ?_
 clear hrun6 hS
 have hto6 : CTo fb w p V U (C.put x.fr ⟨q.nx, q.mt, q.of, rd2⟩) w6 V (fun b => U b ∨ b = w1.heap.size) m := (K3.out.2.1).drew.remap ((Kept.refl _ _).grown G6.out.2 fun b e => by injection e with e; exact e.symm) G6.out.1
 have hqz6 : w1.heap.size ≠ m.q ∧ w.heap.size ≠ m.q := ⟨fun e => K2.out.2.2.2.1 (e ▸ H.out.1.vq), fun e => by have := H.out.1.pm.lt; omega⟩
 have z6 : Bx w6 w1.heap.size #[.int .i64 q.nx, .int .i64 q.mt, .int .i64 q.of, .int .i64 rd2] := (K3.out.1).drew.keep (G6.out.2.block _ (K3.out.1).lt fun e => hqz6.1 (Option.some.inj e))
 have hx6 : Bx w6 w.heap.size x.cells := (K3.out.2.2).drew.keep (G6.out.2.block _ (K3.out.2.2).lt fun e => hqz6.2 (Option.some.inj e))
 have hen6 : Env fb w6 := H.out.2.2.1.kept hto6.kept H.out.1.vf
 rw [H.out.2.2.2.2.2.2.2.1] at hto6
 have K6 := Lib.hid (And.intro hto6 (And.intro z6 (And.intro hx6 hen6)))
 have d8 : w6.cell? ⟨w.heap.size, 8, none⟩ = some (.bool x.ok) := hx6.c 8
 have d1 : w6.cell? ⟨w.heap.size, 1, none⟩ = some (.int .i64 x.fr) := hx6.c 1
 have d4 : w6.cell? ⟨w.heap.size, 4, none⟩ = some (.int .i64 x.ix) := hx6.c 4
 have d0 : w6.cell? ⟨w.heap.size, 0, none⟩ = some (.int .i64 x.kind) := hx6.c 0
 clear hto6 z6 hx6 hen6 hqz6 hrd'
 obtain ⟨okv, hokv⟩ : ∃ o, x.ok = o := ⟨_, rfl⟩
 rw [hokv] at d8
 have HO := Lib.hid (show x.ms.ok = okv from hokv)
 clear hokv
 cases okv with
 | true =>
  have hhs := chas_any x.fr x.ix K6.out.1.cx H.out.2.2.2.2.2.2.1 K6.out.2.2.2 XB.out.1 XB.out.2.1
  have Hhs := Lib.hid hhs
  clear hhs
  go_wp2_with fail
  refine Hhs.out.mono ?_
  intro e w8 h8
  have h8 := OutPost.up K6.out.1 h8
  obtain ⟨A5, n5, c5, X5, V5, U5, m5, rfl, r5⟩ := h8
  have R5 := Lib.hid r5
  clear r5
  go_wp2_with fail
  go_ret
  rw [← HR.out, told_ok HO.out, H.out.2.2.2.2.2.2.2.2.1]
  exact ⟨A5, n5, c5, X5, V5, U5, m5, rfl, R5.out⟩
 | false =>
  by_cases hk : x.kind = 4
  ·have hk' : (x.kind == 4) = true := by rw [hk]; rfl
   have HK := Lib.hid (show x.ms.kind = 4 from hk)
   clear hk
   obtain ⟨nx3, hnx3⟩ : ∃ z, max (q.mt + 1) (min (x.ix + 1) (q.nx - 1)) = z := ⟨_, rfl⟩
   have w1' : IntKind.i64.wrap (q.mt + 1) = q.mt + 1 := by rw [IntKind.wrap_i64]; have := QB.out.2.1; omega
   have w2' : IntKind.i64.wrap (x.ix + 1) = x.ix + 1 := by rw [IntKind.wrap_i64]; have := XB.out.2.1; omega
   have w3' : IntKind.i64.wrap (q.nx - 1) = q.nx - 1 := by rw [IntKind.wrap_i64]; have := QB.out.1; omega
   have c0 : w6.cell? ⟨w1.heap.size, 0, none⟩ = some (.int .i64 q.nx) := K6.out.2.1.c 0
   have c1 : w6.cell? ⟨w1.heap.size, 1, none⟩ = some (.int .i64 q.mt) := K6.out.2.1.c 1
   have c2 : w6.cell? ⟨w1.heap.size, 2, none⟩ = some (.int .i64 q.of) := K6.out.2.1.c 2
   have f0 := K6.out.2.1.f 0
   have f2 := K6.out.2.1.f 2
   go_upto_region 9 with (fail)
   try rw [hnx3]
   obtain ⟨W7, hW7⟩ : ∃ W7, W7 = (w6.setCell ⟨w1.heap.size, 0, none⟩ (.int .i64 nx3)).setCell ⟨w1.heap.size, 2, none⟩ (.int .i64 0) := ⟨_, rfl⟩
   have z7 : Bx W7 w1.heap.size #[.int .i64 nx3, .int .i64 q.mt, .int .i64 0, .int .i64 rd2] := by subst hW7; exact (K6.out.2.1.set 0 _).set 2 _
   have hto7 : CTo fb w p V U C1 W7 V (fun b => U b ∨ b = w1.heap.size) m := by subst hW7; exact (K6.out.1.side ⟨.inr rfl, K2.out.2.2.2.1⟩ (Nat.le_of_lt K2.out.2.2.1) _).side ⟨.inr rfl, K2.out.2.2.2.1⟩ (Nat.le_of_lt K2.out.2.2.1) _
   have hx7 : Bx W7 w.heap.size x.cells := by
    subst hW7
    exact K6.out.2.2.1.keep ((heap_set_ne (by have := K2.out.2.2.1; omega)).trans (heap_set_ne (by have := K2.out.2.2.1; omega)))
   rw [← hW7]
   have hok2 : (C1.put x.fr ⟨nx3, q.mt, 0, rd2⟩).Ok k := H.out.2.2.2.2.2.2.1.put XB.out.1 ⟨by show 1 ≤ nx3 ∧ nx3 ≤ _; have h1 := QB.out.1; have h2 := QB.out.2.1; have h3 := XB.out.2.1; omega, QB.out.2.1, by show (0 : Int) ≤ 0 ∧ (0 : Int) ≤ _; omega, QB.out.2.2.2.2.2⟩
   have eR : R = C1.back x.fr ⟨nx3, q.mt, 0, rd2⟩ := by
    rw [← HR.out, told_no HO.out HK.out, H.out.2.2.2.2.2.2.2.2.1, HQ.out]
    show C1.back x.fr ⟨max (q.mt + 1) (min (x.ix + 1) (q.nx - 1)), q.mt, 0, max q.rd x.rd⟩ = _
    rw [hnx3, QB.out.2.2.2.2.1]
   have K7 := Lib.hid (And.intro z7 (And.intro hto7 (And.intro hx7 (And.intro hok2 eR))))
   clear hW7 z7 hto7 hx7 hok2 eR c0 c1 c2 f0 f2 w1' w2' w3' hnx3 d0 d1 d4 d8
   have F9 : Hid (∀ W', Below W7.heap.size W7 W' → (W'.cell? ⟨p, 16, none⟩ = some (.map (some m.q)) ∧ W'.cell? ⟨w.heap.size, 1, none⟩ = some (.int .i64 x.fr)) ∧ (W'.cell? ⟨w1.heap.size, 0, none⟩ = some (.int .i64 nx3) ∧ W'.cell? ⟨w1.heap.size, 1, none⟩ = some (.int .i64 q.mt) ∧ W'.cell? ⟨w1.heap.size, 2, none⟩ = some (.int .i64 0) ∧ W'.cell? ⟨w1.heap.size, 3, none⟩ = some (.int .i64 rd2))) := Lib.hid fun W' hb =>
    ⟨⟨((K7.out.2.1).cx.below hb).bx.c 16, ((K7.out.2.2.1).below hb).c 1⟩, ((K7.out.1).below hb).c 0, ((K7.out.1).below hb).c 1, ((K7.out.1).below hb).c 2, ((K7.out.1).below hb).c 3⟩
   obtain ⟨w9, hrun9, hp9, hg9⟩ := ((K7.out.2.1).cx.drew).pm.put XB.out.1 ⟨nx3, q.mt, 0, rd2⟩
   unfold peV at hrun9
   have G9 := Lib.hid (And.intro hp9 hg9)
   clear hp9 hg9
   refine wp_region_S 7 (fun W' => Below W7.heap.size W7 W') (.take 0 (.take 1 (.take 2 (.take 3 (.take 4 (.take 5 (.take 6 (.one 7 (.nil))))))))) (by kernel_rfl) (Below.refl _ _).drew (fun _ _ _ _ h => h) (fun hS => ?_)
   repeat (first
    | (refine wpS_take (v := ?_) rfl rfl (by rfl) ?_ ?_; rotate_left; (intro W hW; have hf := F9.out W hW; go_split_ands; go_simp; try with_reducible rfl); try simp only [Act.put, lyA, lyB, lyC])
    | (refine wpS_skip rfl rfl (by rfl) ?_; try simp only [Act.put, lyA, lyB, lyC]))
   refine wpS_last rfl (by rfl) (fun K hK => ?_)
   go_simp
   refine hK _ _ ?_
   clear hK K
   try simp only [Act.put, lyA, lyB, lyC]
   refine wpS_nil ?_
   clear hrun9 hS
   have hto9 : CTo fb w p V U (C1.put x.fr ⟨nx3, q.mt, 0, rd2⟩) w9 V (fun b => U b ∨ b = w1.heap.size) m := (K7.out.2.1).drew.remap ((Kept.refl _ _).grown G9.out.2 fun b e => by injection e with e; exact e.symm) G9.out.1
   have hqz9 : w1.heap.size ≠ m.q ∧ w.heap.size ≠ m.q := ⟨fun e => K2.out.2.2.2.1 (e ▸ H.out.1.vq), fun e => by have := H.out.1.pm.lt; omega⟩
   have z9 : Bx w9 w1.heap.size #[.int .i64 nx3, .int .i64 q.mt, .int .i64 0, .int .i64 rd2] := (K7.out.1).drew.keep (G9.out.2.block _ (K7.out.1).lt fun e => hqz9.1 (Option.some.inj e))
   have hx9 : Bx w9 w.heap.size x.cells := (K7.out.2.2.1).drew.keep (G9.out.2.block _ (K7.out.2.2.1).lt fun e => hqz9.2 (Option.some.inj e))
   have hen9 : Env fb w9 := H.out.2.2.1.kept hto9.kept H.out.1.vf
   have hsd9 := send_any x.fr hto9.cx K7.out.2.2.2.1 hen9 XB.out.1
   have Hsd9 := Lib.hid hsd9
   have Tn9 := Lib.hid hto9
   have e19 : w9.cell? ⟨w.heap.size, 1, none⟩ = some (.int .i64 x.fr) := hx9.c 1
   clear hsd9 hto9 z9 hx9 hen9 hqz9
   go_wp2_with fail
   refine Hsd9.out.mono ?_
   intro e w8 h8
   obtain ⟨y, rfl, ms8, at8, hb8⟩ := h8
   have Y8 := Lib.hid (And.intro ms8 (And.intro at8 hb8))
   clear ms8 at8 hb8
   unfold Mr.val
   go_wp2_with fail
   go_ret
   rw [K7.out.2.2.2.2]
   unfold Cr.back
   have hto8 := Tn9.out.below Y8.out.2.2
   have hu8 : y.At w8 (fun b => ¬ (U b ∨ b = w1.heap.size)) := Y8.out.2.1.mono fun b hb hu => by have h1 := Tn9.out.cx.ul b hu; have h2 : w9.heap.size ≤ b := hb; omega
   have ho8 := out_one (x := y) hto8.kept.size hto8 (Y8.out.2.1.mono fun b hb => by have h1 := Tn9.out.kept.size; have h2 : w9.heap.size ≤ b := hb; omega) hu8
   rw [Y8.out.1] at ho8
   exact ho8
  ·have hk' : (x.kind == 4) = false := by simpa using hk
   have HK := Lib.hid (show ¬ x.ms.kind = 4 from hk)
   clear hk
   have c2p : w6.cell? ⟨p, 2, none⟩ = some (.int .i64 C.s.b) := by
    have h9 : w6.cell? ⟨p, 2, none⟩ = some (.int .i64 m.s.b) := K6.out.1.cx.bx.c 2
    rw [h9, K6.out.1.cx.s_eq.2.2.1, H.out.2.2.2.2.2.2.2.2.2]
   have c0 : w6.cell? ⟨w1.heap.size, 0, none⟩ = some (.int .i64 q.nx) := K6.out.2.1.c 0
   have off : Hid ((x.ix ≠ C.s.b ∨ C.s.b < q.nx) → R = (C1, [])) := Lib.hid fun hc => by
    rw [← HR.out, told_off HO.out HK.out (by rw [HQ.out]; exact hc), H.out.2.2.2.2.2.2.2.2.1]
   by_cases h1 : x.ix = C.s.b
   ·have h1' : (x.ix != C.s.b) = false := by rw [h1]; simp
    by_cases h2 : C.s.b < q.nx
    ·have h2' : decide (C.s.b < q.nx) = true := decide_eq_true h2
     have RR := Lib.hid (off.out (.inr h2))
     clear h1 h2 off
     go_wp2_with fail
     go_region
     all_goals
      go_wp2_with fail
      go_ret
      rw [RR.out]
      exact out_none rfl K6.out.1.drew
    ·have h2' : decide (C.s.b < q.nx) = false := decide_eq_false h2
     have RR := Lib.hid (show R = C1.back x.fr ⟨q.nx, q.mt, if x.off < C.handed.length then x.off else 0, rd2⟩ by
      rw [← HR.out, told_piece HO.out HK.out (by rw [HQ.out]; exact fun h9 => h9.elim (fun h8 => h8 h1) h2), H.out.2.2.2.2.2.2.2.2.1, HQ.out]
      show C1.back x.fr ⟨q.nx, q.mt, if x.off < C.handed.length then x.off else 0, max q.rd x.rd⟩ = _
      rw [QB.out.2.2.2.2.1])
     clear h1 h2 off
     go_wp2_with fail
     go_region
     all_goals
      go_upto_region 13 with (fail)
      have c2 : w6.cell? ⟨w1.heap.size, 2, none⟩ = some (.int .i64 q.of) := K6.out.2.1.c 2
      have f2 := K6.out.2.1.f 2
      go_upto_region 14 with (fail)
      obtain ⟨W7, hW7⟩ : ∃ W7, W7 = (w6.setCell ⟨w1.heap.size, 2, none⟩ (.int .i64 0)).drew := ⟨_, rfl⟩
      have z7 : Bx W7 w1.heap.size #[.int .i64 q.nx, .int .i64 q.mt, .int .i64 0, .int .i64 rd2] := by subst hW7; exact (K6.out.2.1.set 2 _).drew
      have hto7 : CTo fb w p V U C1 W7 V (fun b => U b ∨ b = w1.heap.size) m := by subst hW7; exact (K6.out.1.side ⟨.inr rfl, K2.out.2.2.2.1⟩ (Nat.le_of_lt K2.out.2.2.1) _).drew
      have hx7 : Bx W7 w.heap.size x.cells := by
       subst hW7
       exact (K6.out.2.2.1.keep (heap_set_ne (by have := K2.out.2.2.1; omega))).drew
      rw [← hW7]
      have hen7 : Env fb W7 := H.out.2.2.1.kept hto7.kept H.out.1.vf
      have hhd := handed_any hto7.cx H.out.2.2.2.2.2.2.1 hen7
      have eh : C1.handed = C.handed := by unfold Cr.handed; rw [H.out.2.2.2.2.2.2.2.2.2]
      rw [eh] at hhd
      have Hhd := Lib.hid hhd
      have K7 := Lib.hid (And.intro z7 (And.intro hto7 hx7))
      clear hW7 z7 hto7 hx7 hen7 hhd eh c2 f2 c0 c2p d0 d1 d4 d8
      go_wp2_with fail
      refine Hhd.out.mono ?_
      intro e w8' h8
      obtain ⟨Ah, nh, ch, rfl, oh, hbh⟩ := h8
      have hlen : C.handed.length = nh := by have := (Rd.of_own oh).blen; exact this
      have z8 := K7.out.1.below hbh
      have hto8 := K7.out.2.1.below hbh
      have hx8 := K7.out.2.2.below hbh
      have K8 := Lib.hid (And.intro z8 (And.intro hto8 hx8))
      have d9 : w8'.cell? ⟨w.heap.size, 9, none⟩ = some (.int .i64 x.off) := hx8.c 9
      have c2 : w8'.cell? ⟨w1.heap.size, 2, none⟩ = some (.int .i64 0) := z8.c 2
      have f2 := z8.f 2
      have rr := RR.out
      rw [hlen] at rr
      have RR2 := Lib.hid rr
      clear z8 hto8 hx8 oh hbh hlen rr
      by_cases ho : x.off < (nh : Int)
      ·have ho' : decide (x.off < (nh : Int)) = true := decide_eq_true ho
       have rr := RR2.out
       rw [if_pos ho] at rr
       have RR3 := Lib.hid rr
       clear rr ho
       go_upto_region 17 with (fail)
       obtain ⟨W9, hW9⟩ : ∃ W9, W9 = w8'.setCell ⟨w1.heap.size, 2, none⟩ (.int .i64 x.off) := ⟨_, rfl⟩
       have z9 : Bx W9 w1.heap.size #[.int .i64 q.nx, .int .i64 q.mt, .int .i64 x.off, .int .i64 rd2] := by subst hW9; exact K8.out.1.set 2 _
       have hto9 : CTo fb w p V U C1 W9 V (fun b => U b ∨ b = w1.heap.size) m := by subst hW9; exact K8.out.2.1.side ⟨.inr rfl, K2.out.2.2.2.1⟩ (Nat.le_of_lt K2.out.2.2.1) _
       have hx9 : Bx W9 w.heap.size x.cells := by
        subst hW9
        exact K8.out.2.2.keep (heap_set_ne (by have := K2.out.2.2.1; omega))
       rw [← hW9]
       have hok2 : (C1.put x.fr ⟨q.nx, q.mt, x.off, rd2⟩).Ok k := H.out.2.2.2.2.2.2.1.put XB.out.1 ⟨QB.out.1, QB.out.2.1, XB.out.2.2, QB.out.2.2.2.2.2⟩
       have K9 := Lib.hid (And.intro z9 (And.intro hto9 (And.intro hx9 hok2)))
       clear hW9 z9 hto9 hx9 hok2 d9 c2 f2
       have F10 : Hid (∀ W', Below W9.heap.size W9 W' → (W'.cell? ⟨p, 16, none⟩ = some (.map (some m.q)) ∧ W'.cell? ⟨w.heap.size, 1, none⟩ = some (.int .i64 x.fr)) ∧ (W'.cell? ⟨w1.heap.size, 0, none⟩ = some (.int .i64 q.nx) ∧ W'.cell? ⟨w1.heap.size, 1, none⟩ = some (.int .i64 q.mt) ∧ W'.cell? ⟨w1.heap.size, 2, none⟩ = some (.int .i64 x.off) ∧ W'.cell? ⟨w1.heap.size, 3, none⟩ = some (.int .i64 rd2))) := Lib.hid fun W' hb =>
        ⟨⟨((K9.out.2.1).cx.below hb).bx.c 16, ((K9.out.2.2.1).below hb).c 1⟩, ((K9.out.1).below hb).c 0, ((K9.out.1).below hb).c 1, ((K9.out.1).below hb).c 2, ((K9.out.1).below hb).c 3⟩
       obtain ⟨w10, hrun10, hp10, hg10⟩ := ((K9.out.2.1).cx.drew).pm.put XB.out.1 ⟨q.nx, q.mt, x.off, rd2⟩
       unfold peV at hrun10
       have G10 := Lib.hid (And.intro hp10 hg10)
       clear hp10 hg10
       refine wp_region_S 7 (fun W' => Below W9.heap.size W9 W') (.take 0 (.take 1 (.take 2 (.take 3 (.take 4 (.take 5 (.take 6 (.one 7 (.nil))))))))) (by kernel_rfl) (Below.refl _ _).drew (fun _ _ _ _ h => h) (fun hS => ?_)
       repeat (first
        | (refine wpS_take (v := ?_) rfl rfl (by rfl) ?_ ?_; rotate_left; (intro W hW; have hf := F10.out W hW; go_split_ands; go_simp; try with_reducible rfl); try simp only [Act.put, lyA, lyB, lyC])
        | (refine wpS_skip rfl rfl (by rfl) ?_; try simp only [Act.put, lyA, lyB, lyC]))
       refine wpS_last rfl (by rfl) (fun K hK => ?_)
       go_simp
       refine hK _ _ ?_
       clear hK K
       try simp only [Act.put, lyA, lyB, lyC]
       refine wpS_nil ?_
       clear hrun10 hS
       have hto10 : CTo fb w p V U (C1.put x.fr ⟨q.nx, q.mt, x.off, rd2⟩) w10 V (fun b => U b ∨ b = w1.heap.size) m := (K9.out.2.1).drew.remap ((Kept.refl _ _).grown G10.out.2 fun b e => by injection e with e; exact e.symm) G10.out.1
       have hqz10 : w1.heap.size ≠ m.q ∧ w.heap.size ≠ m.q := ⟨fun e => K2.out.2.2.2.1 (e ▸ H.out.1.vq), fun e => by have := H.out.1.pm.lt; omega⟩
       have z10 : Bx w10 w1.heap.size #[.int .i64 q.nx, .int .i64 q.mt, .int .i64 x.off, .int .i64 rd2] := (K9.out.1).drew.keep (G10.out.2.block _ (K9.out.1).lt fun e => hqz10.1 (Option.some.inj e))
       have hx10 : Bx w10 w.heap.size x.cells := (K9.out.2.2.1).drew.keep (G10.out.2.block _ (K9.out.2.2.1).lt fun e => hqz10.2 (Option.some.inj e))
       have hen10 : Env fb w10 := H.out.2.2.1.kept hto10.kept H.out.1.vf
       have hsd10 := send_any x.fr hto10.cx K9.out.2.2.2 hen10 XB.out.1
       have Hsd10 := Lib.hid hsd10
       have Tn10 := Lib.hid hto10
       have e110 : w10.cell? ⟨w.heap.size, 1, none⟩ = some (.int .i64 x.fr) := hx10.c 1
       clear hsd10 hto10 z10 hx10 hen10 hqz10
       go_wp2_with fail
       refine Hsd10.out.mono ?_
       intro e w8 h8
       obtain ⟨y, rfl, ms8, at8, hb8⟩ := h8
       have Y8 := Lib.hid (And.intro ms8 (And.intro at8 hb8))
       clear ms8 at8 hb8
       unfold Mr.val
       go_wp2_with fail
       go_ret
       rw [RR3.out]
       unfold Cr.back
       have hto8 := Tn10.out.below Y8.out.2.2
       have hu8 : y.At w8 (fun b => ¬ (U b ∨ b = w1.heap.size)) := Y8.out.2.1.mono fun b hb hu => by have h1 := Tn10.out.cx.ul b hu; have h2 : w10.heap.size ≤ b := hb; omega
       have ho8 := out_one (x := y) hto8.kept.size hto8 (Y8.out.2.1.mono fun b hb => by have h1 := Tn10.out.kept.size; have h2 : w10.heap.size ≤ b := hb; omega) hu8
       rw [Y8.out.1] at ho8
       exact ho8
      ·have ho' : decide (x.off < (nh : Int)) = false := decide_eq_false ho
       have rr := RR2.out
       rw [if_neg ho] at rr
       have RR3 := Lib.hid rr
       clear rr ho
       go_upto_region 17 with (fail)
       have hok2 : (C1.put x.fr ⟨q.nx, q.mt, 0, rd2⟩).Ok k := H.out.2.2.2.2.2.2.1.put XB.out.1 ⟨QB.out.1, QB.out.2.1, by show (0 : Int) ≤ 0 ∧ (0 : Int) ≤ _; omega, QB.out.2.2.2.2.2⟩
       have OK2 := Lib.hid hok2
       clear hok2 d9 c2 f2
       have F11 : Hid (∀ W', Below w8'.heap.size w8' W' → (W'.cell? ⟨p, 16, none⟩ = some (.map (some m.q)) ∧ W'.cell? ⟨w.heap.size, 1, none⟩ = some (.int .i64 x.fr)) ∧ (W'.cell? ⟨w1.heap.size, 0, none⟩ = some (.int .i64 q.nx) ∧ W'.cell? ⟨w1.heap.size, 1, none⟩ = some (.int .i64 q.mt) ∧ W'.cell? ⟨w1.heap.size, 2, none⟩ = some (.int .i64 0) ∧ W'.cell? ⟨w1.heap.size, 3, none⟩ = some (.int .i64 rd2))) := Lib.hid fun W' hb =>
        ⟨⟨((K8.out.2.1).cx.below hb).bx.c 16, ((K8.out.2.2).below hb).c 1⟩, ((K8.out.1).below hb).c 0, ((K8.out.1).below hb).c 1, ((K8.out.1).below hb).c 2, ((K8.out.1).below hb).c 3⟩
       obtain ⟨w11, hrun11, hp11, hg11⟩ := ((K8.out.2.1).cx.drew).pm.put XB.out.1 ⟨q.nx, q.mt, 0, rd2⟩
       unfold peV at hrun11
       have G11 := Lib.hid (And.intro hp11 hg11)
       clear hp11 hg11
       refine wp_region_S 7 (fun W' => Below w8'.heap.size w8' W') (.take 0 (.take 1 (.take 2 (.take 3 (.take 4 (.take 5 (.take 6 (.one 7 (.nil))))))))) (by kernel_rfl) (Below.refl _ _).drew (fun _ _ _ _ h => h) (fun hS => ?_)
       repeat (first
        | (refine wpS_take (v := ?_) rfl rfl (by rfl) ?_ ?_; rotate_left; (intro W hW; have hf := F11.out W hW; go_split_ands; go_simp; try with_reducible rfl); try simp only [Act.put, lyA, lyB, lyC])
        | (refine wpS_skip rfl rfl (by rfl) ?_; try simp only [Act.put, lyA, lyB, lyC]))
       refine wpS_last rfl (by rfl) (fun K hK => ?_)
       go_simp
       refine hK _ _ ?_
       clear hK K
       try simp only [Act.put, lyA, lyB, lyC]
       refine wpS_nil ?_
       clear hrun11 hS
       have hto11 : CTo fb w p V U (C1.put x.fr ⟨q.nx, q.mt, 0, rd2⟩) w11 V (fun b => U b ∨ b = w1.heap.size) m := (K8.out.2.1).drew.remap ((Kept.refl _ _).grown G11.out.2 fun b e => by injection e with e; exact e.symm) G11.out.1
       have hqz11 : w1.heap.size ≠ m.q ∧ w.heap.size ≠ m.q := ⟨fun e => K2.out.2.2.2.1 (e ▸ H.out.1.vq), fun e => by have := H.out.1.pm.lt; omega⟩
       have z11 : Bx w11 w1.heap.size #[.int .i64 q.nx, .int .i64 q.mt, .int .i64 0, .int .i64 rd2] := (K8.out.1).drew.keep (G11.out.2.block _ (K8.out.1).lt fun e => hqz11.1 (Option.some.inj e))
       have hx11 : Bx w11 w.heap.size x.cells := (K8.out.2.2).drew.keep (G11.out.2.block _ (K8.out.2.2).lt fun e => hqz11.2 (Option.some.inj e))
       have hen11 : Env fb w11 := H.out.2.2.1.kept hto11.kept H.out.1.vf
       have hsd11 := send_any x.fr hto11.cx OK2.out hen11 XB.out.1
       have Hsd11 := Lib.hid hsd11
       have Tn11 := Lib.hid hto11
       have e111 : w11.cell? ⟨w.heap.size, 1, none⟩ = some (.int .i64 x.fr) := hx11.c 1
       clear hsd11 hto11 z11 hx11 hen11 hqz11
       go_wp2_with fail
       refine Hsd11.out.mono ?_
       intro e w8 h8
       obtain ⟨y, rfl, ms8, at8, hb8⟩ := h8
       have Y8 := Lib.hid (And.intro ms8 (And.intro at8 hb8))
       clear ms8 at8 hb8
       unfold Mr.val
       go_wp2_with fail
       go_ret
       rw [RR3.out]
       unfold Cr.back
       have hto8 := Tn11.out.below Y8.out.2.2
       have hu8 : y.At w8 (fun b => ¬ (U b ∨ b = w1.heap.size)) := Y8.out.2.1.mono fun b hb hu => by have h1 := Tn11.out.cx.ul b hu; have h2 : w11.heap.size ≤ b := hb; omega
       have ho8 := out_one (x := y) hto8.kept.size hto8 (Y8.out.2.1.mono fun b hb => by have h1 := Tn11.out.kept.size; have h2 : w11.heap.size ≤ b := hb; omega) hu8
       rw [Y8.out.1] at ho8
       exact ho8
   ·have h1' : (x.ix != C.s.b) = true := by simpa using h1
    have RR := Lib.hid (off.out (.inl h1))
    clear h1 off
    go_wp2_with fail
    go_region
    all_goals
     go_wp2_with fail
     go_ret
     rw [RR.out]
     exact out_none rfl K6.out.1.drew
end Go.Proofs.YtmhaahcbmdhinaaGreatDoor
namespace Go.Proofs.YtmhaahcbmdhinaaGreatDoor
open Go.RowKit
set_option linter.unusedVariables false
set_option linter.unusedSimpArgs false
set_option maxRecDepth 100000
theorem own_cpw {w : World} {base : Nat} {e : TypeId} {size n c : Nat} {A : Option Addr} {xs : List Value} (h : w.ownsRow base e size (.slice A n c) n xs) : n ≤ c ∧ c ≤ maxLen := by
 obtain ⟨A', c', e, h1, h2⟩ := own_form h
 injection e with e1 e2 e3
 subst e3
 exact ⟨h1, h2⟩
def PutPostW (W : World) (r : Int × List UInt8 × List UInt8 × Int × Bool) (e : Ending) (w' : World) : Prop :=
 ∃ A c B d n m, e = .returned (.tuple #[.agg #[.int .i64 r.1, .slice A n c], .slice B m d, .int .i64 r.2.2.2.1, .bool r.2.2.2.2]) ∧ Rd w' (W.heap.size ≤ ·) 1 A n (bs r.2.1) ∧ (n ≤ c ∧ c ≤ maxLen) ∧ Rd w' (W.heap.size ≤ ·) 1 B m (bs r.2.2.1) ∧ (m ≤ d ∧ d ≤ maxLen) ∧ Below W.heap.size W w'

attribute [local go_sem] eqlB
theorem putw_refuse (bk key off : Int) (A : Option Addr) (n c : Nat) (hv : List UInt8) (B : Option Addr) (m d : Nat) (last : Bool) (w : World)
   (hr : Rd w (· < w.heap.size) 1 A n (bs hv)) (hn : n ≤ 1048576) (hm : m ≤ 1048576)
   (H N : Int) (h2 : ((key != bk) = false ∧ (off == 0) = false ∧ H = n ∧ N = n) ∨ ((key != bk) = true ∧ H = 0 ∧ N = 0) ∨ ((key != bk) = false ∧ (off == 0) = true ∧ H = 0 ∧ N = n)) (h3 : (off != H) = true ∨ (off != H) = false ∧ (m : Int) > 1048576 - H) :
   Calls Tryz.prog 128 #[.agg #[.int .i64 bk, .slice A n c], .int .i64 key, .int .i64 off, .slice B m d, .bool last] w (PutPostW w (bk, hv, [], N, false)) := by
  have hlt : ¬ w.heap.size + 1 < w.heap.size := by omega
  rcases h2 with ⟨h2, h2', rfl, rfl⟩ | ⟨h2, rfl, rfl⟩ | ⟨h2, h2', rfl, rfl⟩ <;> rcases h3 with h3 | ⟨h3, h3'⟩
  all_goals try (exfalso; simp only [bne_iff_ne, beq_iff_eq, ne_eq] at h2' h3; exact h3 h2'; done)
  all_goals try (exfalso; omega)
  all_goals (try have h5 : (1048576 : Int) < m := by omega)
  all_goals (try have h5 : (1048576 : Int) - n < m := by omega)
  all_goals
    go_enter Tryz.func128, Tryz.ntmps128
    go_wp2_with (go_at_call 98; refine (clone_any A n c (bs hv) _ (hr.alloc _ |>.alloc _) (bs_one hv) (by omega)).mono ?_; rintro e w1 ⟨A1, c1, rfl, hown1, hb1⟩; obtain ⟨hc1, hf1⟩ := bcell hb1; have hz1 := hb1.size; simp only [World.size_alloc] at hz1)
    clear hc1 hf1
    obtain ⟨W0, hW0⟩ : ∃ W0, W0 = (w.alloc (Obj.cells #[Value.int IntKind.i64 bk, Value.slice A n c] 107)).alloc (Obj.cells #[Value.int IntKind.i64 0, Value.slice none 0 0] 107) := ⟨_, rfl⟩
    have F0 : Fr W0 (w.heap.size + 1) 2 W0 := by subst hW0; exact Fr.new (by simp) rfl
    have u0 : W0.cell? ⟨w.heap.size, 0, none⟩ = some (.int .i64 bk) := by subst hW0; simp [World.cell?_alloc_some]
    have u1 : W0.cell? ⟨w.heap.size, 1, none⟩ = some (.slice A n c) := by subst hW0; simp [World.cell?_alloc_some]
    have r0 : Rd W0 (· < w.heap.size) 1 A n (bs hv) := by subst hW0; exact hr.alloc _ |>.alloc _
    have b0 : Below w.heap.size w W0 := by subst hW0; exact (Below.refl _ _).alloc (Nat.le_refl _) _ |>.alloc (by simp) _
    rw [← hW0] at hb1 hown1
    clear hW0
    have F1 := F0.below hb1
    have sof : ∀ W, Fr W0 (w.heap.size + 1) 2 W → (Fr W0 (w.heap.size + 1) 2 W ∧ W.cell? ⟨w.heap.size, 0, none⟩ = some (.int .i64 bk) ∧ W.cell? ⟨w.heap.size, 1, none⟩ = some (.slice A n c) ∧ W.cell? ⟨w.heap.size + 1, 0, none⟩ = some (peek W (w.heap.size + 1) 0) ∧ W.cell? ⟨w.heap.size + 1, 1, none⟩ = some (peek W (w.heap.size + 1) 1) ∧ W.frozen? ⟨w.heap.size + 1, 0, none⟩ = false ∧ W.frozen? ⟨w.heap.size + 1, 1, none⟩ = false) := fun W F2 => ⟨F2, F2.cell (by omega) u0, F2.cell (by omega) u1, F2.pk (by omega), F2.pk (by omega), F2.fz _, F2.fz _⟩
    go_region_held3 (fun W => Fr W0 (w.heap.size + 1) 2 W ∧ W.cell? ⟨w.heap.size, 0, none⟩ = some (.int .i64 bk) ∧ W.cell? ⟨w.heap.size, 1, none⟩ = some (.slice A n c) ∧ W.cell? ⟨w.heap.size + 1, 0, none⟩ = some (peek W (w.heap.size + 1) 0) ∧ W.cell? ⟨w.heap.size + 1, 1, none⟩ = some (peek W (w.heap.size + 1) 1) ∧ W.frozen? ⟨w.heap.size + 1, 0, none⟩ = false ∧ W.frozen? ⟨w.heap.size + 1, 1, none⟩ = false) ((refine sof _ ?_; first | exact F1.drew | (go_split_ands; exact Fr.below (by assumption) (by assumption)) | (go_split_ands; exact Fr.set (Fr.set (by assumption) _ _) _ _))) (first | (go_at_call 98; refine (clone_any A n c (bs hv) _ (Fr.rd (k := 2) (by go_split_ands; assumption) r0 hlt) (bs_one hv) (by omega)).mono ?_; rintro e w2 ⟨A2, c2, rfl, hown2, hb2⟩))
    have FF := Fr.set (Fr.set (Fr.below (Fr.drew F1) hb2) 0 (.int .i64 bk)) 1 (.slice A2 n c2)
    have F2 := Fr.below (Fr.drew F1) hb2
    have p0 : w2.cell? ⟨w.heap.size + 1, 0, none⟩ = some (peek w2 (w.heap.size + 1) 0) := F2.pk (by omega)
    have p1 : w2.cell? ⟨w.heap.size + 1, 1, none⟩ = some (peek w2 (w.heap.size + 1) 1) := F2.pk (by omega)
    go_wp2_with fail
    refine bodyPost_ret (by simp [results, Tryz.results128, go_sem, p0, p1]; rfl) rfl ?_
    -- case hr => simp [results, Tryz.results128, go_sem, p0, p1]; rfl
    refine ⟨A2, c2, none, 0, n, 0, rfl, ?_, own_cpw hown2, Rd.none_, ⟨Nat.le_refl _, by simp [maxLen]⟩, b0.trans (FF.to_below (by omega))⟩
    have r2 := Rd.of_own hown2
    have hsz : w.heap.size + 2 ≤ w1.heap.size := by omega
    refine ((r2.setCell (p := ⟨w.heap.size + 1, 0, none⟩) ?_ _).setCell (p := ⟨w.heap.size + 1, 1, none⟩) ?_ _).mono fun b hb => (by have h9 : w1.heap.size ≤ b := hb; show w.heap.size ≤ b; omega)
    · show ¬ w1.heap.size ≤ w.heap.size + 1; omega
    · show ¬ w1.heap.size ≤ w.heap.size + 1; omega

theorem putw_own (bk key off : Int) (A : Option Addr) (n c : Nat) (hv : List UInt8) (B : Option Addr) (m d : Nat) (p : List UInt8) (last : Bool) (w : World)
   (hr : Rd w (· < w.heap.size) 1 A n (bs hv)) (hp : Rd w (· < w.heap.size) 1 B m (bs p)) (hn : n ≤ 1048576) (hm : m ≤ 1048576)
   (k : Nat) (h2 : (key != bk) = false ∧ (off == 0) = false) (h3 : (off != ((n : Nat) : Int)) = false) (h4 : (m : Int) ≤ 1048576 - (n : Nat)) (hk : n + m = k) :
   Calls Tryz.prog 128 #[.agg #[.int .i64 bk, .slice A n c], .int .i64 key, .int .i64 off, .slice B m d, .bool last] w (PutPostW w (key, cond last [] (hv ++ p), cond last (hv ++ p) [], (k : Int), last)) := by
  have hlt : ¬ w.heap.size + 1 < w.heap.size := by omega
  have Hk := Lib.hid hk
  rcases h2 with ⟨h2, h2'⟩ <;> cases last <;> clear hk
  all_goals
    go_enter Tryz.func128, Tryz.ntmps128
    go_wp2_with fail
    refine (clone_any A n c _ _ (hr.alloc _ |>.alloc _) (bs_one _) (by omega)).mono ?_
    rintro e w1 ⟨A1, c1, rfl, hown1, hb1⟩
    have F1 := Fr.below (Fr.new (R := w.heap.size + 1) (k := 2) (w0 := w.alloc (Obj.cells #[Value.int IntKind.i64 bk, Value.slice A n c] 107)) (by simp) rfl) hb1
    have rp := ((hp.alloc _).alloc _).below hb1
    obtain ⟨hc1, hf1⟩ := bcell hb1
    have hz1 := hb1.size
    simp only [World.size_alloc] at hz1 hown1
    go_wp2_with (at_builtin; go_must (refine wpList_append_any _ Tryz.underlying26 u8_elem rfl (by omega) rfl rfl rfl hown1 rfl rp (bs_one p) (by omega) (by omega) Hk.out (ys := bs (hv ++ p)) (bs_append hv p).symm ?_); go_must (intro A2 c2 w2 hown2 hg2 hat2; have hlo := own_lt hown1; clear hc1 hf1; have F2 := F1.grown hg2 (fun g hg => by have := hlo g hg; simp at this ⊢; omega); clear hlo; have p0 := F2.pk (i := 0) (by decide); have p1 := F2.pk (i := 1) (by decide); have p2 := F2.fz 0; have p3 := F2.fz 1))
    all_goals
      refine bodyPost_ret (by simp [results, Tryz.results128, go_sem, p0, p1, p2, p3]; rfl) rfl ?_
      have b0 : Below w.heap.size w ((w.alloc (Obj.cells #[Value.int IntKind.i64 bk, Value.slice A n c] 107)).alloc (Obj.cells #[Value.int IntKind.i64 0, Value.slice none 0 0] 107)) := (Below.refl _ _).alloc (Nat.le_refl _) _ |>.alloc (by simp) _
      have q0 : ¬ (w.heap.size + 1 + 1 ≤ w.heap.size + 1) := by omega
      first
        | exact ⟨A2, c2, none, 0, k, 0, rfl, (((Rd.of_own hown2).setCell (p := ⟨w.heap.size + 1, 0, none⟩) q0 _).setCell (p := ⟨w.heap.size + 1, 1, none⟩) q0 _).mono fun b hb => (by first | (have h9 : w.heap.size + 1 + 1 ≤ b := hb; show w.heap.size ≤ b; omega) | (have h9 : w1.heap.size ≤ b := hb; show w.heap.size ≤ b; omega)), own_cpw hown2, Rd.none_, ⟨Nat.le_refl _, by simp [maxLen]⟩, b0.trans (((F2.set 0 _).set 1 _).to_below (by omega))⟩
        | exact ⟨none, 0, A2, c2, 0, k, rfl, Rd.none_, ⟨Nat.le_refl _, by simp [maxLen]⟩, (((Rd.of_own hown2).setCell (p := ⟨w.heap.size + 1, 0, none⟩) q0 _).setCell (p := ⟨w.heap.size + 1, 1, none⟩) q0 _).mono fun b hb => (by first | (have h9 : w.heap.size + 1 + 1 ≤ b := hb; show w.heap.size ≤ b; omega) | (have h9 : w1.heap.size ≤ b := hb; show w.heap.size ≤ b; omega)), own_cpw hown2, b0.trans (((F2.set 0 _).set 1 _).to_below (by omega))⟩

theorem putw_new (bk key : Int) (A : Option Addr) (n c : Nat) (hv : List UInt8) (B : Option Addr) (m d : Nat) (p : List UInt8) (last : Bool) (w : World)
   (hr : Rd w (· < w.heap.size) 1 A n (bs hv)) (hp : Rd w (· < w.heap.size) 1 B m (bs p)) (hn : n ≤ 1048576) (hm : m ≤ 1048576)
   (k : Nat) (h2 : (key != bk) = true ∨ (key != bk) = false) (hk : 0 + m = k) :
   Calls Tryz.prog 128 #[.agg #[.int .i64 bk, .slice A n c], .int .i64 key, .int .i64 0, .slice B m d, .bool last] w (PutPostW w (key, cond last [] ([] ++ p), cond last ([] ++ p) [], (k : Int), last)) := by
  have hlt : ¬ w.heap.size + 1 < w.heap.size := by omega
  have Hk := Lib.hid hk
  rcases h2 with h2 | h2 <;> cases last <;> clear hk
  all_goals
    go_enter Tryz.func128, Tryz.ntmps128
    go_wp2_with fail
    refine (clone_any A n c _ _ (hr.alloc _ |>.alloc _) (bs_one _) (by omega)).mono ?_
    rintro e w1 ⟨A1, c1, rfl, hown1, hb1⟩
    have F1 := Fr.below (Fr.new (R := w.heap.size + 1) (k := 2) (w0 := w.alloc (Obj.cells #[Value.int IntKind.i64 bk, Value.slice A n c] 107)) (by simp) rfl) hb1
    have rp := ((hp.alloc _).alloc _).below hb1
    obtain ⟨hc1, hf1⟩ := bcell hb1
    have hz1 := hb1.size
    simp only [World.size_alloc] at hz1 hown1
    go_wp2_with (at_builtin; go_must (refine wpList_append_any _ Tryz.underlying26 u8_elem rfl (by omega) rfl rfl rfl (own_nil w1 w1.heap.size 5 1 0 rfl) rfl rp (bs_one p) (by omega) (Nat.le_refl _) Hk.out (ys := bs ([] ++ p)) rfl ?_); go_must (intro A2 c2 w2 hown2 hg2 hat2; have hlo := own_lt (own_nil w1 w1.heap.size 5 1 0 rfl); clear hc1 hf1; have F2 := F1.grown hg2 (fun g hg => by have := hlo g hg; simp at this ⊢; omega); clear hlo; have p0 := F2.pk (i := 0) (by decide); have p1 := F2.pk (i := 1) (by decide); have p2 := F2.fz 0; have p3 := F2.fz 1))
    all_goals
      refine bodyPost_ret (by simp [results, Tryz.results128, go_sem, p0, p1, p2, p3]; rfl) rfl ?_
      have b0 : Below w.heap.size w ((w.alloc (Obj.cells #[Value.int IntKind.i64 bk, Value.slice A n c] 107)).alloc (Obj.cells #[Value.int IntKind.i64 0, Value.slice none 0 0] 107)) := (Below.refl _ _).alloc (Nat.le_refl _) _ |>.alloc (by simp) _
      have q0 : ¬ (w1.heap.size ≤ w.heap.size + 1) := by omega
      first
        | exact ⟨A2, c2, none, 0, k, 0, rfl, (((Rd.of_own hown2).setCell (p := ⟨w.heap.size + 1, 0, none⟩) q0 _).setCell (p := ⟨w.heap.size + 1, 1, none⟩) q0 _).mono fun b hb => (by first | (have h9 : w.heap.size + 1 + 1 ≤ b := hb; show w.heap.size ≤ b; omega) | (have h9 : w1.heap.size ≤ b := hb; show w.heap.size ≤ b; omega)), own_cpw hown2, Rd.none_, ⟨Nat.le_refl _, by simp [maxLen]⟩, b0.trans (((F2.set 0 _).set 1 _).to_below (by omega))⟩
        | exact ⟨none, 0, A2, c2, 0, k, rfl, Rd.none_, ⟨Nat.le_refl _, by simp [maxLen]⟩, (((Rd.of_own hown2).setCell (p := ⟨w.heap.size + 1, 0, none⟩) q0 _).setCell (p := ⟨w.heap.size + 1, 1, none⟩) q0 _).mono fun b hb => (by first | (have h9 : w.heap.size + 1 + 1 ≤ b := hb; show w.heap.size ≤ b; omega) | (have h9 : w1.heap.size ≤ b := hb; show w.heap.size ≤ b; omega)), own_cpw hown2, b0.trans (((F2.set 0 _).set 1 _).to_below (by omega))⟩
section
variable (bk key off : Int) (A : Option Addr) (n c : Nat) (hv : List UInt8) (B : Option Addr) (m d : Nat) (p : List UInt8) (last : Bool) (w : World)
   (hr : Rd w T 1 A n (bs hv)) (hp : Rd w T 1 B m (bs p)) (hn : n ≤ 1048576) (hm : m ≤ 1048576)
include hr hp hn hm
theorem putw_any : Calls Tryz.prog 128 #[.agg #[.int .i64 bk, .slice A n c], .int .i64 key, .int .i64 off, .slice B m d, .bool last] w (PutPostW w (putR bk hv key off p last)) := by
 have hr' := (hr.lt (by omega)).mono (ok' := (· < w.heap.size)) fun _ h => h.2
 have hp' := (hp.lt (by omega)).mono (ok' := (· < w.heap.size)) fun _ h => h.2
 have l1 := hr.blen
 have l2 := hp.blen
 subst l1 l2
 unfold putR
 by_cases hk : key = bk
 ·subst hk
  by_cases h0 : off = 0
  ·subst h0
   have e : putHave key hv key 0 = [] := by simp [putHave]
   rw [e, if_neg (by simp; omega)]
   have := putw_new key key A hv.length c hv B p.length d p last w hr' hp' hn hm p.length (.inr (by simp)) (by omega)
   cases last <;> simpa using this
  ·have e : putHave key hv key off = hv := by simp [putHave, h0]
   rw [e]
   by_cases h3 : off = hv.length ∧ (p.length : Int) ≤ 1048576 - hv.length
   ·rw [if_neg (by omega)]
    have := putw_own key key off A hv.length c hv B p.length d p last w hr' hp' hn hm (hv ++ p).length ⟨by simp, by simpa using h0⟩ (by simp; omega) (by omega) (by simp)
    cases last <;> simpa using this
   ·rw [if_pos (by omega)]
    simp only [ne_eq, not_true_eq_false, if_false]
    refine putw_refuse key key off A hv.length c hv B p.length d last w hr' hn hm hv.length hv.length (.inl ⟨by simp, by simpa using h0, rfl, rfl⟩) ?_
    by_cases h4 : off = hv.length
    ·exact .inr ⟨by simp; omega, by omega⟩
    ·exact .inl (by simp; omega)
 ·have e : putHave bk hv key off = [] := by simp [putHave, hk]
  rw [e]
  by_cases h0 : off = 0
  ·subst h0
   rw [if_neg (by simp; omega)]
   have := putw_new bk key A hv.length c hv B p.length d p last w hr' hp' hn hm p.length (.inl (by simpa using hk)) (by omega)
   cases last <;> simpa using this
  ·rw [if_pos (by simp; omega), if_pos hk]
   exact putw_refuse bk key off A hv.length c hv B p.length d last w hr' hn hm 0 0 (.inr (.inl ⟨by simpa using hk, rfl, rfl⟩)) (.inl (by simpa using h0))
end
end Go.Proofs.YtmhaahcbmdhinaaGreatDoor
