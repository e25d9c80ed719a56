/- Walk: (*raft.Core).voted
   Walk: Step, whole, whatever it hears.
   'm[k] = v' in the round of 'for k, v := range m', at a key that is there
   Walk: (*raft.Core).Compact
   Plain: the votes that a member has granted; what it tells to who stands
   Plain: a member stays one that may be, whatever it hears, and whatever is let go -/
import Derived.Test.YtmhaahcbmdhinaaGreatDoorZM25
import Derived.Test.YtmhaahcbmdhinaaGreatDoorZM26
import Derived.Test.YtmhaahcbmdhinaaGreatDoorZM27
import Derived.Test.YtmhaahcbmdhinaaGreatDoorZM29
import Derived.Test.YtmhaahcbmdhinaaGreatDoorZM21
import Derived.Test.YtmhaahcbmdhinaaGreatDoorZM8
namespace Go.Proofs.YtmhaahcbmdhinaaGreatDoor
open Go.RowKit
set_option maxRecDepth 100000
set_option linter.unusedVariables false
set_option linter.unusedSimpArgs false
theorem CX.votesTo {fb p : Nat} {w W : World} {V U : Nat → Prop} {C : Cr} {m : Mb} {A : Option Addr} {n c : Nat} {l : List Int} (h : CX fb w p V U C m) (hb : Bx W p (({ m with V := A, nv := n, cv := c } : Mb).cells { C with votes := l })) (own : W.ownsRow 0 3 1 (.slice A n c) n (ii l))
  (hA : ∀ b, A.map (·.block) = some b → m.V.map (·.block) = some b ∨ w.heap.size ≤ b) (hk : ∀ b, b < w.heap.size → b ≠ p → m.V.map (·.block) ≠ some b → W.heap[b]? = w.heap[b]?) (hz : w.heap.size ≤ W.heap.size) (ho : W.os = w.os ∧ W.tape = w.tape ∧ W.output = w.output) (hfb : fb ≤ w.heap.size) :
  CTo fb w p V U { C with votes := l } W (fun b => V b ∨ A.map (·.block) = some b) (fun b => U b ∨ A.map (·.block) = some b) { m with V := A, nv := n, cv := c } := by
 have hpl := h.bx.lt
 have hup : U p := h.vu p h.vp
 have hvU : ∀ b, m.V.map (·.block) = some b → U b := fun b hb => h.vu b (h.vv b hb).1
 have hkn : ∀ b, ¬ (U b ∨ A.map (·.block) = some b) → b < w.heap.size → W.heap[b]? = w.heap[b]? := fun b hb hl => hk b hl (fun e => hb (.inl (e ▸ hup))) fun e => hb (.inl (hvU b e))
 have hlt := h.at_.lt
 have hh := h.hv.lt (by omega)
 have hmo : ∀ b, ¬ U b ∧ b < w.heap.size → ¬ (U b ∨ A.map (·.block) = some b) := fun b hb h2 => h2.elim hb.1 fun e => (hA b e).elim (fun e2 => hb.1 (hvU b e2)) fun e2 => by have := hb.2; omega
 refine ⟨⟨hb, h.pm.keep (hk _ h.pm.lt h.qp fun e => (h.vv _ e).2.2 rfl), .inl h.vp, .inl h.vq, h.qp, fun g hg => ⟨.inr hg, ?_, ?_⟩, fun b hb => hb.imp (h.vu b) id, fun b hb => hb.elim (h.vf b) fun e => (hA b e).elim (fun e2 => h.vf b (h.vv b e2).1) fun e2 => by omega, fun b hb => ?_, own, ?_, ?_, ?_, h.hk⟩,
  fun b hb => hb.elim .inl fun e => (hA b e).imp (fun e2 => (h.vv b e2).1) id, fun b hb => .inl hb, fun b hb => hb.elim .inl fun e => (hA b e).imp (hvU b) id, ho.1, ho.2.1, ho.2.2, hz, fun b hl hb => hk b hl (fun e => hb (e ▸ h.vp)) fun e => hb (h.vv b e).1⟩
 ·intro e
  rcases hA g hg with e2 | e2
  ·exact (h.vv g e2).2.1 e
  ·omega
 ·intro e
  have := h.pm.lt
  have e9 : g = m.q := e
  rcases hA g hg with e2 | e2
  ·exact (h.vv g e2).2.2 e9
  ·omega
 ·rcases hb with hb | hb
  ·have := h.ul b hb; omega
  ·exact (own_lt own b hb).2
 ·have ha := (hlt.mono hmo).keep hkn
  exact ⟨ha.l, ha.d, ha.cf, ha.sn, ha.k1, ha.k2, ha.k3⟩
 ·exact h.st
 ·exact (hh.mono hmo).keep hkn
theorem Cr.Ok.oneVote {C : Cr} {k : Nat} (h : C.Ok k) {v : Int} (hv : 1 ≤ v ∧ v ≤ 64) (hk : k + 1 ≤ 1000000) : ({ C with votes := C.votes ++ [v] } : Cr).Ok (k + 1) := by
 have h1 := h.mono (k' := k + 1) (by omega) hk
 refine ⟨h1.may, h1.sn, h1.id, h1.span, h1.role, h1.leader, h1.commit, h1.round, h1.gone, h1.wait, ⟨by have := h.votes.1; simp; omega, fun x hx => ?_⟩, h1.peers, h1.key, h1.hv, h1.big⟩
 rcases List.mem_append.1 hx with hx | hx
 ·exact h.votes.2 x hx
 ·rw [List.mem_singleton.1 hx]; exact hv
theorem Cr.Ok.voted {C : Cr} {k : Nat} (h : C.Ok k) {x : Ms} (hx : x.may = true) (hk : k + 1 ≤ 1000000) : (C.voted x).1.Ok (k + 1) := by
 unfold Cr.voted
 dsimp only
 split
 ·exact h.mono (by omega) hk
 ·split
  ·exact (h.oneVote (Ms.may_in hx).2.1 hk).lead
  ·exact h.oneVote (Ms.may_in hx).2.1 hk
set_option maxHeartbeats 12800000 in
theorem voted_any {fb p : Nat} {w : World} {V U : Nat → Prop} {C : Cr} {m : Mb} {k : Nat} (x : Mr) (h : CX fb w p V U C m) (ho : C.Ok k) (hk1 : k + 1 ≤ 1000000) (he : Env fb w) (hfr : 1 ≤ x.fr ∧ x.fr ≤ 64) :
  Calls Tryz.prog 68 #[.pointer (some ⟨p, 0, none⟩), x.val] w (OutPost fb w p V U (C.voted x.ms)) := by
 obtain ⟨W0, hW0⟩ : ∃ W0, W0 = w.alloc (.cells x.cells 78) := ⟨_, rfl⟩
 have b0 : Bx W0 w.heap.size x.cells := by subst hW0; exact Bx.new _ _ _ rfl
 have hbe : Below w.heap.size w W0 := by subst hW0; exact (Below.refl _ _).alloc (Nat.le_refl _) _
 have hz0 : W0.heap.size = w.heap.size + 1 := by subst hW0; simp
 obtain ⟨k1, k2, k3, k4, k5, k6, k7⟩ := h.s_eq
 have h0 := h.below hbe
 have c7 : W0.cell? ⟨p, 7, none⟩ = some (.int .i64 C.role) := h0.bx.c 7
 have c0 : W0.cell? ⟨p, 0, none⟩ = some (.int .i64 C.s.tm) := by rw [← k1]; exact h0.bx.c 0
 have d3 : W0.cell? ⟨w.heap.size, 3, none⟩ = some (.int .i64 x.term) := b0.c 3
 have d8 : W0.cell? ⟨w.heap.size, 8, none⟩ = some (.bool x.ok) := b0.c 8
 have HW := Lib.hid hW0
 have H := Lib.hid (And.intro h (And.intro ho (And.intro he (And.intro b0 (And.intro hbe (And.intro hz0 h0))))))
 clear hW0 b0 hbe hz0 h ho he h0 k1 k2 k3 k4 k5 k6 k7
 unfold Mr.val
 go_enter Tryz.func68, Tryz.ntmps68
 go_upto_region 1 with (fail)
 have HW' := HW.out
 unfold Mr.cells at HW'
 rw [← HW']
 clear HW'
 have fin : Hid ((C.role ≠ 1 ∨ x.term ≠ C.s.tm ∨ x.ok = false) → ∀ W', Below W0.heap.size W0 W' → OutPost fb w p V U (C.voted x.ms) (.returned (.slice none 0 0)) W') := Lib.hid fun hc W' hb => by
  have e : C.voted x.ms = (C, []) := by
   unfold Cr.voted
   exact if_pos hc
  rw [e]
  exact out_none rfl ((CTo.refl H.out.1).below (H.out.2.2.2.2.1.trans (hb.mono H.out.2.2.2.2.1.size)))
 by_cases g1 : C.role = 1
 ·have g1' : (C.role != 1) = false := by rw [g1]; rfl
  by_cases g2 : x.term = C.s.tm
  ·have g2' : (x.term != C.s.tm) = false := by rw [g2]; simp
   obtain ⟨okv, hokv⟩ : ∃ q, x.ok = q := ⟨_, rfl⟩
   rw [hokv] at d8
   cases okv with
   | false =>
    have FF := Lib.hid (fin.out (.inr (.inr hokv)))
    clear fin g1 g2 hokv
    go_region
    all_goals
     go_wp2_with fail
     go_ret
     exact FF.out _ (Below.refl _ _).drew
   | true =>
    have eq1 : C.voted x.ms = (if quor ({ C with votes := C.votes ++ [x.fr] } : Cr).members ({ C with votes := C.votes ++ [x.fr] } : Cr).votes = true then ({ C with votes := C.votes ++ [x.fr] } : Cr).lead else ({ C with votes := C.votes ++ [x.fr] }, [])) := by
     unfold Cr.voted
     have : ¬ (C.role ≠ 1 ∨ x.ms.term ≠ C.s.tm ∨ x.ms.ok = false) := by
      rintro (h | h | h)
      ·exact h g1
      ·exact h g2
      ·rw [show x.ms.ok = x.ok from rfl, hokv] at h; cases h
     rw [if_neg this]
     rfl
    have E1 := Lib.hid eq1
    clear eq1 fin g1 g2 hokv
    go_region
    all_goals
     go_upto_region 3 with (fail)
     clear c7 c0 d3 d8 g1' g2'
     have hVne : ∀ b, m.V.map (·.block) = some b → b ≠ p ∧ b < w.heap.size := fun b hb => ⟨(H.out.1.vv b hb).2.1, H.out.1.ul b (H.out.1.vu b (H.out.1.vv b hb).1)⟩
     have HV := Lib.hid hVne
     have hpl := H.out.1.bx.lt
     have hnv : C.votes.length = m.nv := by have := H.out.1.vt.1; simpa [ii] using this
     have hvl := H.out.2.1.votes.1
     have hbg := H.out.2.1.big.2
     have F1 : Hid (∀ W : World, (W.cell? ⟨p, 15, none⟩ = some (.slice m.V m.nv m.cv) ∧ W.cell? ⟨w.heap.size, 1, none⟩ = some (.int .i64 x.fr)) → W.cell? ⟨p, 15, none⟩ = some (.slice m.V m.nv m.cv) ∧ W.cell? ⟨w.heap.size, 1, none⟩ = some (.int .i64 x.fr)) := Lib.hid fun W h => h
     clear hVne
     refine wp_region_S 11 (fun W => W.cell? ⟨p, 15, none⟩ = some (.slice m.V m.nv m.cv) ∧ W.cell? ⟨w.heap.size, 1, none⟩ = some (.int .i64 x.fr)) (.take 0 (.take 1 (.take 2 (.take 3 (.take 4 (.take 5 (.take 6 (.one 7 (.one 8 (.take 9 (.take 10 (.one 11 (.nil))))))))))))) (by kernel_rfl) ⟨H.out.2.2.2.2.2.2.bx.c 15, H.out.2.2.2.1.c 1⟩ (fun _ _ _ _ h => h) (fun hS => ?_)
     repeat (first
      | (refine wpS_take (v := ?_) rfl rfl (by rfl) ?_ ?_; rotate_left; (intro W hW; have hf := F1.out W hW; go_split_ands; go_simp; try with_reducible rfl); try simp only [Act.put, lyA, lyB, lyC])
      | (refine wpS_skip rfl rfl (by rfl) ?_; try simp only [Act.put, lyA, lyB, lyC]))
     refine wpS_one rfl (by rfl) (fun K hK => ?_)
     go_simp
     obtain ⟨W1, hW1⟩ : ∃ W1, W1 = (W0.alloc (.cells #[.int .i64 x.fr] 3)).drew.drew := ⟨_, rfl⟩
     have r1 : Rd W1 (W0.heap.size ≤ ·) 1 (some ⟨W0.heap.size, 0, none⟩) 1 (ii [x.fr]) := by subst hW1; exact (Rd.lit rfl).drew.drew
     have hb1 : Below W0.heap.size W0 W1 := by subst hW1; exact ((Below.refl _ _).alloc (Nat.le_refl _) _).drew.drew
     have hz1 : W1.heap.size = W0.heap.size + 1 := by subst hW1; show (W0.alloc _).heap.size = _; simp
     rw [← hW1]
     have hS1 : W1.cell? ⟨p, 15, none⟩ = some (.slice m.V m.nv m.cv) ∧ W1.cell? ⟨w.heap.size, 1, none⟩ = some (.int .i64 x.fr) := ⟨(H.out.2.2.2.2.2.2.below hb1).bx.c 15, (H.out.2.2.2.1.below hb1).c 1⟩
     refine hK (fun W => W.cell? ⟨p, 15, none⟩ = some (.slice m.V m.nv m.cv) ∧ W.cell? ⟨w.heap.size, 1, none⟩ = some (.int .i64 x.fr)) _ _ (fun _ h => h) hS1 ?_
     clear hK K hW1
     try simp only [Act.put, lyA, lyB, lyC]
     refine wpS_one rfl (by rfl) (fun K hK => ?_)
     refine wp_append_any W1 Tryz.underlying25 int_elem rfl (by omega) rfl rfl (H.out.2.2.2.2.2.2.below hb1).vt rfl r1 (ii_one _) (by omega) (Nat.zero_le _) rfl (show ii C.votes ++ ii [x.fr] = ii (C.votes ++ [x.fr]) by simp [ii]) ?_
     intro A2 c2 w2 o2 g2 a2
     have hne : m.V.map (·.block) ≠ some p ∧ m.V.map (·.block) ≠ some w.heap.size := ⟨fun e => (HV.out _ e).1 rfl, fun e => by have := (HV.out _ e).2; omega⟩
     have bp1 := (H.out.2.2.2.2.2.2.below hb1).bx
     have bx1 := H.out.2.2.2.1.below hb1
     have bp2 : Bx w2 p (m.cells C) := bp1.keep (g2.block _ bp1.lt fun e => hne.1 e.symm)
     have bx2 : Bx w2 w.heap.size x.cells := bx1.keep (g2.block _ bx1.lt fun e => hne.2 e.symm)
     have hS2 : w2.cell? ⟨p, 15, none⟩ = some (.slice m.V m.nv m.cv) ∧ w2.cell? ⟨w.heap.size, 1, none⟩ = some (.int .i64 x.fr) := ⟨bp2.c 15, bx2.c 1⟩
     have A2' := Lib.hid (And.intro o2 (And.intro g2 (And.intro a2 (And.intro bp2 (And.intro hb1 hz1)))))
     refine hK (fun W => W.cell? ⟨p, 15, none⟩ = some (.slice m.V m.nv m.cv) ∧ W.cell? ⟨w.heap.size, 1, none⟩ = some (.int .i64 x.fr)) _ _ (fun _ h => h) hS2 ?_
     clear hK K o2 g2 a2 hne bp1 bx1 bp2 bx2 hS1 r1
     try simp only [Act.put, lyA, lyB, lyC]
     repeat (first
      | (refine wpS_take (v := ?_) rfl rfl (by rfl) ?_ ?_; rotate_left; (intro W hW; have hf := F1.out W hW; go_split_ands; go_simp; try with_reducible rfl); try simp only [Act.put, lyA, lyB, lyC])
      | (refine wpS_skip rfl rfl (by rfl) ?_; try simp only [Act.put, lyA, lyB, lyC]))
     have q15 := A2'.out.2.2.2.1.c 15
     have f15 := A2'.out.2.2.2.1.f 15
     have q15' : w2.cell? ⟨p, 15, none⟩ = some (.slice m.V m.nv m.cv) := q15
     clear q15
     refine wpS_last rfl (by rfl) (fun K hK => ?_)
     go_simp
     refine hK _ _ ?_
     clear hK K hS hS2
     try simp only [Act.put, lyA, lyB, lyC]
     refine wpS_nil ?_
     obtain ⟨W5, hW5⟩ : ∃ W5, W5 = w2.setCell ⟨p, 15, none⟩ (.slice A2 (m.nv + 1) c2) := ⟨_, rfl⟩
     have gb5 : w2.grownBy W5 (some p) := by subst hW5; exact gb_set _ p 15 _
     have x5 : Bx W5 p (({ m with V := A2, nv := m.nv + 1, cv := c2 } : Mb).cells { C with votes := C.votes ++ [x.fr] }) := by subst hW5; exact A2'.out.2.2.2.1.set 15 _
     rw [← hW5]
     clear hW5 q15' f15
     have zz := A2'.out.2.1.size
     have zz5 := gb5.size
     have hz0 := H.out.2.2.2.2.2.1
     have hz1 := A2'.out.2.2.2.2.2
     have hA : ∀ b, A2.map (·.block) = some b → m.V.map (·.block) = some b ∨ w.heap.size ≤ b := fun b hb => A2'.out.2.2.1.elim (fun e => .inl (e ▸ hb)) fun e => .inr (by have e9 := Option.some.inj (hb.symm.trans e); omega)
     have hA2p : ∀ b, A2.map (·.block) = some b → b ≠ p := fun b hb e => (hA b hb).elim (fun e2 => (HV.out b e2).1 e) fun e2 => by omega
     have own5 : W5.ownsRow 0 3 1 (.slice A2 (m.nv + 1) c2) (m.nv + 1) (ii (C.votes ++ [x.fr])) := by
      refine A2'.out.1.kept gb5 ?_
      cases hA2 : A2 with
      | none => exact .inl rfl
      | some a => exact .inr fun e => hA2p a.block (by rw [hA2]; rfl) (Option.some.inj e)
     have hto : CTo fb w p V U { C with votes := C.votes ++ [x.fr] } W5 (fun b => V b ∨ A2.map (·.block) = some b) (fun b => U b ∨ A2.map (·.block) = some b) { m with V := A2, nv := m.nv + 1, cv := c2 } := by
      refine H.out.1.votesTo x5 own5 hA (fun b hl hb hv => ?_) (by omega) ⟨?_, ?_, ?_⟩ H.out.2.2.1.le
      ·rw [gb5.block b (by omega) (fun e => hb (Option.some.inj e)), A2'.out.2.1.block b (by omega) (fun e => hv e.symm), A2'.out.2.2.2.2.1.block b (by omega), H.out.2.2.2.2.1.block b hl]
      ·rw [gb5.os, A2'.out.2.1.os, A2'.out.2.2.2.2.1.os, H.out.2.2.2.2.1.os]
      ·rw [gb5.tape, A2'.out.2.1.tape, A2'.out.2.2.2.2.1.tape, H.out.2.2.2.2.1.tape]
      ·rw [gb5.output, A2'.out.2.1.output, A2'.out.2.2.2.2.1.output, H.out.2.2.2.2.1.output]
     have hen : Env fb W5 := H.out.2.2.1.kept hto.kept H.out.1.vf
     have hok := H.out.2.1.oneVote hfr hk1
     obtain ⟨C3, hC3⟩ : ∃ C3, ({ C with votes := C.votes ++ [x.fr] } : Cr) = C3 := ⟨_, rfl⟩
     obtain ⟨M, hM⟩ : ∃ M, ({ m with V := A2, nv := m.nv + 1, cv := c2 } : Mb) = M := ⟨_, rfl⟩
     have hMV : M.V = A2 ∧ M.nv = m.nv + 1 ∧ M.cv = c2 := by rw [← hM]; exact ⟨rfl, rfl, rfl⟩
     have hCV : C.votes ++ [x.fr] = C3.votes := by rw [← hC3]
     have e1 := E1.out
     rw [hC3] at hto hok e1
     rw [hM] at hto
     rw [hCV] at own5
     have hcx := hto.cx
     have hf := hcx.fit hok
     have hmb := members_any hcx.drew hf hok.may hen.drew.ev
     have hld := fun W (hb : Below W5.heap.size W5 W) => lead_any (hcx.below hb) hok (hen.new hb)
     have F5 : Hid (∀ W, Below W5.heap.size W5 W → W.cell? ⟨p, 15, none⟩ = some (.slice A2 (m.nv + 1) c2)) := Lib.hid fun W hb => by
      have h9 := (hcx.below hb).bx.c 15
      rw [← hMV.1, ← hMV.2.1, ← hMV.2.2]
      exact h9
     have hml := (cmay_iff.1 (members_may hok.may)).2.2.2
     obtain ⟨qv, hqv⟩ : ∃ q, quor C3.members C3.votes = q := ⟨_, rfl⟩
     rw [hqv] at e1
     have T5 := Lib.hid (And.intro hto (And.intro e1 (And.intro hml (And.intro hqv (Rd.of_own own5)))))
     have Hmb := Lib.hid hmb
     have Hld := Lib.hid hld
     clear hto hok hC3 hM hMV hCV hen hcx hf hmb hld hml hqv e1 own5 hA hA2p x5 gb5 zz zz5 A2' hz1 E1
     go_upto_region 4 with (fail)
     refine wp_region_S 7 (fun W => Below W5.heap.size W5 W) (.take 0 (.take 2 (.take 3 (.take 4 (.take 5 (.one 1 (.one 6 (.one 7 (.nil))))))))) (by kernel_rfl) (Below.refl _ _).drew (fun _ _ _ _ h => h) (fun hS => ?_)
     repeat (first
      | (refine wpS_take (v := ?_) rfl rfl (by rfl) ?_ ?_; rotate_left; (intro W hW; have hf := F5.out W hW; go_split_ands; go_simp; try with_reducible rfl); try simp only [Act.put, lyA, lyB, lyC])
      | (refine wpS_skip rfl rfl (by rfl) ?_; try simp only [Act.put, lyA, lyB, lyC]))
     refine wpS_one rfl (by rfl) (fun K hK => ?_)
     go_simp
     go_at_call 62
     refine (Hmb.out).mono ?_
     intro e w6 h6
     obtain ⟨A3, n3, c3, rfl, o3, hb3⟩ := h6
     have hS3 : Below W5.heap.size W5 w6 := (Below.refl _ _).drew.trans hb3
     have hn3 : n3 ≤ 7 := by have := ii_len (Rd.of_own o3); have := T5.out.2.2.1; omega
     have hq3 := quorum_any A3 n3 c3 C3.members A2 (m.nv + 1) c2 C3.votes w6 (Rd.of_own o3) (by omega) (T5.out.2.2.2.2.below hS3) (by omega)
     rw [T5.out.2.2.2.1] at hq3
     have Hq3 := Lib.hid hq3
     clear o3 hb3 hq3
     refine hK (fun W => Below W5.heap.size W5 W) _ _ (fun _ h => h) hS3 ?_
     clear hK K
     try simp only [Act.put, lyA, lyB, lyC]
     refine wpS_one rfl (by rfl) (fun K hK => ?_)
     go_simp
     go_at_call 61
     refine Hq3.out.mono ?_
     unfold SameBool
     rintro e w7 ⟨rfl, rfl⟩
     refine hK (fun W => Below W5.heap.size W5 W) _ _ (fun _ h => h) hS3 ?_
     clear hK K
     try simp only [Act.put, lyA, lyB, lyC]
     refine wpS_last rfl (by rfl) (fun K hK => ?_)
     go_simp
     refine hK _ _ ?_
     clear hK K
     try simp only [Act.put, lyA, lyB, lyC]
     refine wpS_nil ?_
     clear hS
     cases qv with
     | true =>
      have Hld6 := Lib.hid (Hld.out _ hS3)
      go_wp2_with fail
      refine Hld6.out.mono ?_
      intro e w8 h8
      obtain ⟨A8, n8, c8, X8, V8, U8, M8, rfl, j1, j2, j3, j4⟩ := h8
      have K8 := Lib.hid (And.intro j1 (And.intro j2 (And.intro j3 j4)))
      clear j1 j2 j3 j4
      go_wp2_with fail
      go_ret
      rw [T5.out.2.1, if_pos (by trivial)]
      exact OutPost.up (T5.out.1.below hS3) ⟨A8, n8, c8, X8, V8, U8, M8, rfl, K8.out.1, K8.out.2.1, K8.out.2.2.1, K8.out.2.2.2⟩
     | false =>
      go_wp2_with fail
      go_ret
      rw [T5.out.2.1, if_neg (by decide)]
      exact out_none rfl (T5.out.1.below hS3)
  ·have g2' : (x.term != C.s.tm) = true := by simpa using g2
   have FF := Lib.hid (fin.out (.inr (.inl g2)))
   clear fin g1 g2
   go_region
   all_goals
    go_wp2_with fail
    go_ret
    exact FF.out _ (Below.refl _ _).drew
 ·have g1' : (C.role != 1) = true := by simpa using g1
  have FF := Lib.hid (fin.out (.inl g1))
  clear fin g1
  go_region
  all_goals
   go_wp2_with fail
   go_ret
   exact FF.out _ (Below.refl _ _).drew
end Go.Proofs.YtmhaahcbmdhinaaGreatDoor
namespace Go.Proofs.YtmhaahcbmdhinaaGreatDoor
open Go.ChangeMaps Go.MapKept Go.WideShapes
open Go.WideElems (Fit rd rg pl rd_key rd_val rg_of other_key)
open Go.Maps (Keyed)
set_option linter.unusedVariables false
set_option linter.unusedSimpArgs false
section
variable {H : Type} {P : Program} {k : TypeId} {R : Value → Option (DataW H × List MemPlace)} {w : World} {b r n : Nat} {D : DataW H} {left : Lit → Bool} {cnt : Nat}
theorem ranges_in (h : w.ranges P k R b r n D left cnt) {kl : Lit} (hl : left kl = true) : ∃ es clock, w.heap[b]? = some (.map es clock) ∧ ∃ x ∈ es.toList, (rg P k R x).1 = kl := by
 obtain ⟨es, clock, since, seen, c0, hb, F, hs, hD, hr, hold, hc, hl1, hl2, h9⟩ := h
 exact ⟨es, clock, hb, hl2 kl hl⟩
theorem ranges_store {t e : TypeId} (h : w.ranges P k R b r n D left cnt) (K : Keyed P k) (ht : P.underlying t = some (.map k e)) (hn : n < maxLen) {key val : Value} {kl : Lit} {d : DataW H} {ps : List MemPlace} (hkey : keyOf P k key = some kl) (hv : R val = some (d, ps))
  (hin : ∃ es clock, w.heap[b]? = some (.map es clock) ∧ ∃ x ∈ es.toList, (rg P k R x).1 = kl) :
  ∃ w', (Instr.mapUpdate t (.map (some b)) key val).run P w = .ok () w' ∧ w'.ranges P k R b r n (D.put kl d) left cnt ∧ w.grownBy w' (some b) := by
 have hne := h.ne
 obtain ⟨es, clock, since, seen, c0, hb, F, hs, rfl, hr, hold, rfl, hl1, hl2, hsc, hsk⟩ := h
 obtain ⟨es0, clock0, hb0, x0, hx0, hx0k⟩ := hin
 rw [hb] at hb0
 injection hb0 with hb0
 injection hb0 with e1 e2
 subst e1 e2
 obtain ⟨es', clock', hrun, F', hput, _, _, hwho⟩ := Maps.fit_store (R' := R) K ht hb F (Nat.lt_of_le_of_lt hs hn) (fun _ _ _ _ hz => hz) hkey hv
 rcases K.find w hkey es.toList F.keys with ⟨h1, h2⟩ | ⟨j, e0, h1, h2, h3⟩
 ·obtain ⟨y, hy⟩ := F.reads x0 hx0
  have m1 := rd_key hy
  rw [rg_of hy] at hx0k
  rw [hx0k] at m1
  exact absurd (K.inj m1 hkey) (h2 x0 hx0)
 ·have hj : es[j]? = some e0 := by simpa using h2
  have hrun2 : (Instr.mapUpdate t (.map (some b)) key val).run P w = .ok () (setBlock w b (.map (es.modify j (fun e' => { e' with key := key, val := val })) clock)) := by
   simp [Instr.mapUpdate, run_underlying ht, MapKept.run_getObj_map hb, K.check w false hkey, h1, hj, h3, K.stays w hkey, MapKept.run_setObj_map _ hb, Result.andThen, setBlock]
  rw [hrun] at hrun2
  injection hrun2 with _ hw
  have hbk := congrArg (fun W : World => W.heap[b]?) hw
  simp only [heap_setBlock_same hb] at hbk
  injection hbk with hbk
  injection hbk with e1 e2
  subst e1 e2
  have hlist : (es.modify j (fun e' => { e' with key := key, val := val })).toList = es.toList.set j { e0 with key := key, val := val } := by rw [Array.toList_modify, modify_eq_set _ _ _ _ h2]
  have hm0 : e0 ∈ es.toList := List.mem_of_getElem? h2
  have hr0 : (rg P k R e0).1 = kl := by
   obtain ⟨y, hy⟩ := F.reads e0 hm0
   have m1 := rd_key hy
   rw [h3, hkey] at m1
   rw [rg_of hy]
   exact (Option.some.inj m1).symm
  have hr1 : (rg P k R { e0 with key := key, val := val }).1 = kl := by
   have hmem : ({ e0 with key := key, val := val } : MapEntry) ∈ (es.modify j (fun e' => { e' with key := key, val := val })).toList := by
    rw [hlist]
    exact List.mem_iff_getElem.2 ⟨j, by simpa using (List.getElem?_eq_some_iff.1 h2).1, by simp⟩
   obtain ⟨y, hy⟩ := F'.reads _ hmem
   have m1 := rd_key hy
   rw [rg_of hy]
   exact (Option.some.inj (m1.symm.trans hkey))
  have who : ∀ x ∈ es.toList.set j { e0 with key := key, val := val }, x = { e0 with key := key, val := val } ∨ x ∈ es.toList := fun x hx => (List.mem_or_eq_of_mem_set hx).symm
  refine ⟨_, hrun, ⟨_, _, since, seen, c0, heap_setBlock_same hb _, F', by simpa using hs, by rw [DataW.put_eq, hput], (heap_setBlock_other hb _ hne).trans hr, fun x hx => ?_, ?_, fun x hx => ?_, fun x1 hx1 => ?_, hsc, hsk⟩, ⟨rfl, rfl, rfl, by simp [setBlock], fun i _ hi => heap_setBlock_other hb _ (fun e => hi (by rw [e]))⟩⟩
  ·rw [hlist] at hx
   rcases who x hx with rfl | hx
   ·exact hold e0 hm0
   ·exact hold x hx
  ·have e1 : ∀ a : Array MapEntry, (leftOf a seen).size = ((a.toList.map (·.born)).filter fun i => !seen.contains i).length := fun a => by
    unfold leftOf
    rw [← Array.length_toList, Array.toList_filter, List.filter_map, List.length_map]
    rfl
   rw [e1, e1, hlist, List.map_set]
   have : (es.toList.map (·.born)).set j e0.born = es.toList.map (·.born) := by
    apply List.ext_getElem? 
    intro i
    rw [List.getElem?_set]
    split
    ·rename_i hij
     subst hij
     rw [List.getElem?_map, h2]
     simp
     exact (List.getElem?_eq_some_iff.1 h2).1
    ·rfl
   show (((es.toList.map (·.born)).set j e0.born).filter _).length = _
   rw [this]
  ·rw [hlist] at hx
   rcases who x hx with rfl | hx
   ·rw [hr1, ← hr0]
    exact hl1 e0 hm0
   ·exact hl1 x hx
  ·obtain ⟨x, hx, hxk⟩ := hl2 x1 hx1
   rw [hlist]
   obtain ⟨i, hi⟩ := List.getElem?_of_mem hx
   by_cases hij : i = j
   ·subst hij
    rw [h2] at hi
    injection hi with hi
    subst hi
    exact ⟨{ e0 with key := key, val := val }, List.mem_iff_getElem.2 ⟨i, by simpa using (List.getElem?_eq_some_iff.1 h2).1, by simp⟩, by rw [hr1, ← hr0]; exact hxk⟩
   ·exact ⟨x, List.mem_of_getElem? (i := i) (by rw [List.getElem?_set, if_neg (fun e => hij e.symm)]; exact hi), hxk⟩
end
end Go.Proofs.YtmhaahcbmdhinaaGreatDoor
namespace Go.Proofs.YtmhaahcbmdhinaaGreatDoor
open Go.RowKit
set_option maxRecDepth 100000
set_option linter.unusedVariables false
set_option linter.unusedSimpArgs false
theorem PmD.put {D : DataW Unit} {f : Int → Option Pe} (hd : PmD D f) (him : Maps.IsMap D) {who : Int} (hw : 1 ≤ who ∧ who ≤ 64) (p : Pe) : PmD (D.put (.int .i64 who) (peD p)) (fun x => if x = who then some p else f x) := by
 have hk := Maps.keyOf_int_mk Tryz.underlying3 (i64_wf (z := who) (by unfold I64; omega))
 have hkl : WideAt.IsKeyLit (.int .i64 who) := int_key.key hk
 refine ⟨fun x z => ?_, fun x => ?_, fun x hx => ?_, fun kl hkl' => ?_⟩
 ·by_cases e : x = who
  ·subst e
   rw [if_pos rfl, Maps.atKey_put_same him hkl]
   rfl
  ·rw [if_neg e, Maps.atKey_put_other (fun h => e (by injection h)), hd.at_]
 ·by_cases e : x = who
  ·subst e
   rw [if_pos rfl, Maps.has_put_same him hkl]
   rfl
  ·rw [if_neg e, Maps.has_put_other (fun h => e (by injection h)), hd.has_]
 ·by_cases e : x = who
  ·rw [e]; exact hw
  ·rw [if_neg e] at hx
   exact hd.key x hx
 ·by_cases e : kl = .int .i64 who
  ·exact ⟨who, e⟩
  ·rw [Maps.has_put_other e] at hkl'
   exact hd.lit kl hkl'
def offP (p : Pe) : Pe := { p with of := 0 }
def offL (f : Int → Option Pe) (left : Lit → Bool) : Int → Option Pe := fun x => if left (.int .i64 x) = true then f x else (f x).map offP
theorem offL_start {D : DataW Unit} {f : Int → Option Pe} (hd : PmD D f) : offL f (Maps.has D) = f := by
 funext x
 unfold offL
 rw [hd.has_]
 cases f x <;> rfl
theorem offL_end {f : Int → Option Pe} {left : Lit → Bool} (h : ∀ kl, left kl = false) : offL f left = fun x => (f x).map offP := by
 funext x
 unfold offL
 rw [h, if_neg (by decide)]
theorem offL_step {f : Int → Option Pe} {left : Lit → Bool} {x : Int} {q : Pe} (hl : left (.int .i64 x) = true) (hq : offL f left x = some q) : (fun z => if z = x then some (offP q) else offL f left z) = offL f (fun z => left z && !z.sameKey (.int .i64 x)) := by
 funext z
 have hx : WideAt.IsKeyLit (.int .i64 x) → (Lit.int .i64 x).sameKey (.int .i64 x) = true := WideAt.sameKey_self
 unfold offL at hq ⊢
 rw [if_pos hl] at hq
 by_cases e : z = x
 ·subst e
  rw [if_pos rfl, hq]
  have h1 : (Lit.int .i64 z).sameKey (.int .i64 z) = true := by simp [Lit.sameKey]
  show _ = if (left _ && !(Lit.int .i64 z).sameKey (.int .i64 z)) = true then _ else _
  rw [h1]
  simp
 ·rw [if_neg e]
  have h1 : (Lit.int .i64 z).sameKey (.int .i64 x) = false := Maps.sameKey_ne (fun h => e (by injection h))
  show _ = if (left _ && !(Lit.int .i64 z).sameKey (.int .i64 x)) = true then _ else _
  rw [h1]
  simp
theorem kset {p i : Nat} {W W' : World} (h : Kept (· = p) W W') (v : Value) : Kept (· = p) W (W'.setCell ⟨p, i, none⟩ v) := Kept.set (U := (· = p)) (p := ⟨p, i, none⟩) h rfl v
theorem kept_gb {p : Nat} {W W' : World} (h : Kept (· = p) W W') : W.grownBy W' (some p) := ⟨h.os, h.tape, h.output, h.size, fun i hi hne => h.block i hi fun e => hne (by rw [e])⟩
theorem CTo.sNewK {fb p : Nat} {w W W' : World} {V U V' U' : Nat → Prop} {C C' : Cr} {m : Mb} {s' : Sv} (h : CTo fb w p V U C W V' U' m) (hb : Bx W' p (({ m with s := s' } : Mb).cells C')) (hk : Kept (· = p) W W') (hs : s'.At W' (fun b => ¬ U' b)) (h1 : C'.s = s'.st) (h2 : C'.peers = C.peers) (h3 : C'.votes = C.votes) (h4 : C'.hv = C.hv) :
  CTo fb w p V U C' W' V' U' { m with s := s' } := by
 have hx := h.cx
 have hg := kept_gb hk
 have hu : ∀ b, ¬ U' b → some b ≠ some p := fun b hb e => by injection e with e; exact hb (e ▸ hx.vu p hx.vp)
 refine ⟨⟨hb, ?_, hx.vp, hx.vq, hx.qp, hx.vv, hx.vu, hx.vf, fun b hb => Nat.lt_of_lt_of_le (hx.ul b hb) hg.size, ?_, hs, h1.symm, ?_, hx.hk⟩, h.vs, h.us, h.un, ?_⟩
 ·rw [h2]; exact hx.pm.keep (hg.block _ hx.pm.lt fun e => hx.qp (by injection e))
 ·rw [h3]
  refine ⟨hx.vt.1, ?_⟩
  rcases hx.vt.2 with h1 | ⟨g, cap, cur, h1, h2, h3, h4⟩
  ·exact .inl h1
  ·refine .inr ⟨g, cap, cur, h1, h2, ?_, h4⟩
   rw [hg.block g (Array.getElem?_eq_some_iff.1 h3).1 (fun e => (hx.vv g (by injection h1 with h1; rw [h1]; rfl)).2.1 (by injection e)), h3]
 ·rw [h4]; exact hx.hv.keep fun b hb hl => hg.block b hl (hu b hb)
 ·exact h.kept.trans hk fun b hb e => (h.vs b (e ▸ hx.vp)).elim id fun h2 => by omega
def CmPost (fb : Nat) (W : World) (p : Nat) (V U : Nat → Prop) (r : Cr × Int) (e : Ending) (w' : World) : Prop := ∃ m', e = .returned (errE r.2) ∧ CTo fb W p V U r.1 w' V U m'
theorem cmp_yes {C : Cr} {ix t : Int} {sn : List UInt8} (h1 : ¬ C.commit < ix) (h2 : ¬ 1047552 < sn.length) (h3 : C.termOf ix = (0, t)) : C.compact ix sn = ({ C with s := { C.s with b := ix, t := t, l := C.s.l.drop (ix - C.s.b).toNat, cf := C.upto ix, sn := sn }, peers := fun w => (C.peers w).map offP }, 0) := by
 unfold Cr.compact
 rw [if_neg h1, if_neg h2, h3, if_neg (fun h => h rfl)]
 rfl
theorem cmp_err {C : Cr} {ix k t : Int} {sn : List UInt8} (h1 : ¬ C.commit < ix) (h2 : ¬ 1047552 < sn.length) (h3 : C.termOf ix = (k, t)) (h4 : k ≠ 0) : C.compact ix sn = (C, k) := by
 unfold Cr.compact
 rw [if_neg h1, if_neg h2, h3, if_pos h4]
set_option maxHeartbeats 25600000 in
theorem compact_any {fb p : Nat} {w : World} {V U : Nat → Prop} {C : Cr} {m : Mb} {k : Nat} (ix : Int) (D : Option Addr) (nd cd : Nat) (d : List UInt8) (h : CX fb w p V U C m) (ho : C.Ok k) (he : Env fb w) (hd : Rd w (fun b => ¬ U b) 1 D nd (bs d)) (hnd : nd ≤ cd ∧ cd ≤ maxLen) :
  Calls Tryz.prog 76 #[.pointer (some ⟨p, 0, none⟩), .int .i64 ix, .slice D nd cd] w (CmPost fb w p V U (C.compact ix d)) := by
 have hft := h.fit ho
 obtain ⟨k1, k2, k3, k4, k5, k6, k7⟩ := h.s_eq
 have hlen := hd.blen
 have hcomp := compA_any m.s.b m.s.t ix m.s.A m.s.n m.s.c m.s.L w h.at_.l.any h.at_.dat (h.at_.wel hft) (fun y hy => (hft.w y hy).2) hft.z.1 h.at_.k1.1 h.at_.k1.2
 rw [h.termOf] at hcomp
 obtain ⟨⟨kt, tt⟩, hkt⟩ : ∃ q, C.termOf ix = q := ⟨_, rfl⟩
 rw [hkt] at hcomp
 obtain ⟨R, hR⟩ : ∃ R, C.compact ix d = R := ⟨_, rfl⟩
 rw [hR]
 have c9 : w.cell? ⟨p, 9, none⟩ = some (.int .i64 C.commit) := h.bx.c 9
 have p2 : w.cell? ⟨p, 2, none⟩ = some (.int .i64 m.s.b) := h.bx.c 2
 have p3 : w.cell? ⟨p, 3, none⟩ = some (.int .i64 m.s.t) := h.bx.c 3
 have p4 : w.cell? ⟨p, 4, none⟩ = some (.slice m.s.A m.s.n m.s.c) := h.bx.c 4
 have HR := Lib.hid hR
 have ET := Lib.hid hkt
 have Hcomp := Lib.hid hcomp
 have H := Lib.hid (And.intro h (And.intro ho (And.intro he (And.intro hd (And.intro hnd (And.intro hft hlen))))))
 have KE := Lib.hid (And.intro k1 (And.intro k2 (And.intro k3 (And.intro k4 (And.intro k5 (And.intro k6 k7))))))
 clear h ho he hd hnd hft hlen hcomp hkt hR k1 k2 k3 k4 k5 k6 k7
 go_enter Tryz.func76, Tryz.ntmps76
 by_cases h1 : C.commit < ix
 ·have h1I : decide (C.commit < ix) = true := decide_eq_true h1
  have E1 := Lib.hid (show C.compact ix d = (C, 4) by unfold Cr.compact; rw [if_pos h1])
  clear h1
  go_wp2_with fail
  go_ret
  rw [← HR.out, E1.out]
  exact ⟨m, rfl, CTo.refl H.out.1⟩
 ·have h1I : decide (C.commit < ix) = false := decide_eq_false h1
  have N1 := Lib.hid h1
  by_cases h2 : 1047552 < nd
  ·have h2I : decide ((1047552 : Int) < (nd : Int)) = true := decide_eq_true (by omega)
   have E1 := Lib.hid (show C.compact ix d = (C, 2) by unfold Cr.compact; rw [if_neg h1, if_pos (by have := H.out.2.2.2.2.2.2; omega)])
   clear h1 h2
   go_wp2_with fail
   go_ret
   rw [← HR.out, E1.out]
   exact ⟨m, rfl, CTo.refl H.out.1⟩
  ·have h2I : decide ((1047552 : Int) < (nd : Int)) = false := decide_eq_false (by omega)
   have N2 := Lib.hid (show ¬ 1047552 < d.length by have := H.out.2.2.2.2.2.2; omega)
   have N3 := Lib.hid (show nd ≤ 1047552 by omega)
   clear h1 h2
   go_upto_region 7 with (fail)
   go_wp2_with fail
   refine Hcomp.out.mono ?_
   intro e w7 h7
   unfold CompPost at h7
   by_cases hk0 : kt = 0
   case neg =>
    rw [if_neg (show ¬ (kt, tt).1 = 0 from hk0), show errC (kt, tt).1 = .iface 105 (.int .i64 kt) from if_neg hk0] at h7
    obtain ⟨rfl, hb7⟩ := h7
    have E1 := Lib.hid (cmp_err (sn := d) (by have h9 := N1.out; omega) N2.out ET.out hk0)
    have HK := Lib.hid (And.intro hb7 hk0)
    clear hb7 hk0
    go_wp2_with fail
    go_ret
    rw [← HR.out, E1.out]
    refine ⟨m, ?_, (CTo.refl H.out.1).below (HK.out.1.alloc HK.out.1.size _)⟩
    rw [errE_ne HK.out.2]
    rfl
   case pos =>
    subst hk0
    rw [if_pos rfl] at h7
    obtain ⟨A', c', L', mm, rfl, q1, q2, q3, q4, q5, q6, q7⟩ := h7
    have E1 := Lib.hid (cmp_yes (sn := d) (by have h9 := N1.out; omega) N2.out ET.out)
    have Q7 := Lib.hid (And.intro (And.intro q1 (And.intro q2 (And.intro q5 q6))) (And.intro q3 (And.intro q4 q7)))
    clear q1 q2 q3 q4 q5 q6 q7
    go_upto_region 10 with (fail)
    obtain ⟨W8, hW8⟩ : ∃ W8, W8 = w7.alloc (.cells #[.int .i64 ix, .int .i64 tt, .slice A' (m.s.n - mm) c'] 38) := ⟨_, rfl⟩
    have z8 : Bx W8 w7.heap.size #[.int .i64 ix, .int .i64 tt, .slice A' (m.s.n - mm) c'] := by subst hW8; exact Bx.new _ _ 38 rfl
    have h78 : Below w7.heap.size w7 W8 := by subst hW8; exact (Below.refl _ _).alloc (Nat.le_refl _) _
    rw [← hW8]
    have hb8 : Below w.heap.size w W8 := Q7.out.2.2.2.trans (h78.mono Q7.out.2.2.2.size)
    have hup := upto_any ix (H.out.1.below hb8) H.out.2.2.2.2.2.1 (H.out.2.2.1.new hb8).ev
    have Hup := Lib.hid hup
    have K8 := Lib.hid (And.intro z8 (And.intro h78 hb8))
    clear hW8 z8 h78 hb8 hup p2 p3 p4 c9
    go_wp2_with fail
    refine Hup.out.mono ?_
    intro e w9 h9
    obtain ⟨A9, n9, c9, rfl, o9, hb9⟩ := h9
    have hbw9 := K8.out.2.2.trans (hb9.mono K8.out.2.2.size)
    have hx9 := H.out.1.below hbw9
    have p5 : w9.cell? ⟨p, 5, none⟩ = some (.slice m.s.C m.s.nc m.s.cc) := hx9.bx.c 5
    have f5 := hx9.bx.f 5
    have z9 := K8.out.1.below hb9
    have hw8 : w.heap.size ≤ w7.heap.size := Q7.out.2.2.2.size
    have hcp9 := own_cp o9
    have K9_b := Lib.hid hb9
    have K9 := Lib.hid (And.intro (Rd.of_own o9) (And.intro hcp9 (And.intro hbw9 (And.intro z9 (And.intro hw8 (And.intro hb9.size K8.out.2.2.size))))))
    clear hbw9 hx9 z9 hb9 o9 hw8 hcp9
    go_upto_region 11 with (fail)
    obtain ⟨W10, hW10⟩ : ∃ W10, W10 = w9.setCell ⟨p, 5, none⟩ (.slice A9 n9 c9) := ⟨_, rfl⟩
    have kp10 : Kept (· = p) w9 W10 := by subst hW10; exact kset (Kept.refl _ _) _
    have hx9 := H.out.1.below K9.out.2.2.1
    have b10 : Bx W10 p ((m.cells C).setIfInBounds 5 (.slice A9 n9 c9)) := by subst hW10; exact hx9.bx.set 5 _
    have hpl : p < w.heap.size := H.out.1.bx.lt
    have F11 : Hid (∀ W, Kept (· = p) W10 W → W.cell? ⟨w7.heap.size, 0, none⟩ = some (.int .i64 ix) ∧ W.cell? ⟨w7.heap.size, 1, none⟩ = some (.int .i64 tt) ∧ W.cell? ⟨w7.heap.size, 2, none⟩ = some (.slice A' (m.s.n - mm) c')) := Lib.hid fun W hk => by
     have hb := (kp10.trans hk fun b _ h => h).bx K9.out.2.2.2.1 (fun e => by have h1 := K9.out.2.2.2.2.1; have h2 : w7.heap.size = p := e; omega)
     exact ⟨hb.c 0, hb.c 1, hb.c 2⟩
    have hcl := fun W (hk : Kept (· = p) W10 W) => clone_any D nd cd (bs d) W ((kp10.trans hk fun b _ h => h).rd ((H.out.2.2.2.1).below K9.out.2.2.1) fun b hb e => hb (by have h9 : b = p := e; rw [h9]; exact H.out.1.vu _ H.out.1.vp)) (bs_one _) (by have := N3.out; omega)
    rw [← hW10]
    have Hcl := Lib.hid hcl
    have K10 := Lib.hid (And.intro kp10 (And.intro b10 hpl))
    clear hW10 kp10 b10 hpl hcl p5 f5 hx9
    refine wp_region_S 12 (fun W => Kept (· = p) W10 W) (.take 0 (.take 1 (.take 2 (.take 3 (.one 4 (.take 5 (.take 6 (.take 7 (.one 8 (.take 9 (.take 10 (.take 11 (.one 12 (.nil)))))))))))))) (by kernel_rfl) (Kept.refl _ _).drew (fun _ _ _ _ h => h) (fun hS => ?_)
    repeat (first
     | (refine wpS_take (v := ?_) rfl rfl (by rfl) ?_ ?_; rotate_left; (intro W hW; have hf := F11.out W hW; go_split_ands; go_simp; try with_reducible rfl); try simp only [Act.put, lyA, lyB, lyC])
     | (refine wpS_skip rfl rfl (by rfl) ?_; try simp only [Act.put, lyA, lyB, lyC]))
    refine wpS_one rfl (by rfl) (fun K hK => ?_)
    go_simp
    go_at_call 98
    refine (Hcl.out _ hS).mono ?_
    rintro e w12 ⟨A12, c12, rfl, o12, hb12⟩
    have hS12 : Kept (· = p) W10 w12 := hS.trans (Kept.of_new (U := (· = p)) hb12) fun b _ h => h
    have hcp12 := own_cp o12
    have b12 : Bx w12 p ((m.cells C).setIfInBounds 5 (.slice A9 n9 c9)) := K10.out.2.1.drew.below hb12
    have r12 := (Rd.of_own o12).mono (ok' := fun b => w.heap.size ≤ b) fun b hb => by have h1 := K10.out.1.size; have h2 := K9.out.2.2.1.size; have h3 : W10.heap.size ≤ b := hb; show w.heap.size ≤ b; omega
    have K12 := Lib.hid (And.intro hS12 (And.intro b12 (And.intro hcp12 r12)))
    have p2 : w12.cell? ⟨p, 2, none⟩ = some (.int .i64 m.s.b) := b12.c 2
    have p3 : w12.cell? ⟨p, 3, none⟩ = some (.int .i64 m.s.t) := b12.c 3
    have p4 : w12.cell? ⟨p, 4, none⟩ = some (.slice m.s.A m.s.n m.s.c) := b12.c 4
    have p6 : w12.cell? ⟨p, 6, none⟩ = some (.slice m.s.S m.s.ns m.s.cs) := b12.c 6
    have f2 := b12.f 2
    have f3 := b12.f 3
    have f4 := b12.f 4
    have f6 := b12.f 6
    refine hK (fun W => Kept (· = p) W10 W) _ _ (fun _ h => h) hS12 ?_
    clear hK K hS hS12 hb12 o12 hcp12 b12 r12
    try simp only [Act.put, lyA, lyB, lyC]
    repeat (first
     | (refine wpS_take (v := ?_) rfl rfl (by rfl) ?_ ?_; rotate_left; (intro W hW; have hf := F11.out W hW; go_split_ands; go_simp; try with_reducible rfl); try simp only [Act.put, lyA, lyB, lyC])
     | (refine wpS_skip rfl rfl (by rfl) ?_; try simp only [Act.put, lyA, lyB, lyC]))
    refine wpS_one rfl (by rfl) (fun K hK => ?_)
    go_simp
    refine hK (fun W => Kept (· = p) W10 W) _ _ (fun _ h => h) (kset (kset (kset K12.out.1 _) _) _) ?_
    clear hK K
    try simp only [Act.put, lyA, lyB, lyC]
    repeat (first
     | (refine wpS_take (v := ?_) rfl rfl (by rfl) ?_ ?_; rotate_left; (intro W hW; have hf := F11.out W hW; go_split_ands; go_simp; try with_reducible rfl); try simp only [Act.put, lyA, lyB, lyC])
     | (refine wpS_skip rfl rfl (by rfl) ?_; try simp only [Act.put, lyA, lyB, lyC]))
    refine wpS_last rfl (by rfl) (fun K hK => ?_)
    go_simp
    refine hK _ _ ?_
    clear hK K
    try simp only [Act.put, lyA, lyB, lyC]
    refine wpS_nil ?_
    obtain ⟨W13, hW13⟩ : ∃ W13, W13 = (((w12.setCell ⟨p, 2, none⟩ (.int .i64 ix)).setCell ⟨p, 3, none⟩ (.int .i64 tt)).setCell ⟨p, 4, none⟩ (.slice A' (m.s.n - mm) c')).setCell ⟨p, 6, none⟩ (.slice A12 nd c12) := ⟨_, rfl⟩
    have kp13 : Kept (· = p) w12 W13 := by subst hW13; exact kset (kset (kset (kset (Kept.refl _ _) _) _) _) _
    have b13 : Bx W13 p ((((((m.cells C).setIfInBounds 5 (.slice A9 n9 c9)).setIfInBounds 2 (.int .i64 ix)).setIfInBounds 3 (.int .i64 tt)).setIfInBounds 4 (.slice A' (m.s.n - mm) c')).setIfInBounds 6 (.slice A12 nd c12)) := by
     subst hW13
     exact (((K12.out.2.1.set 2 _).set 3 _).set 4 _).set 6 _
    rw [← hW13]
    have kp : Kept (· = p) w9 W13 := (K10.out.1.trans K12.out.1 fun b _ h => h).trans kp13 fun b _ h => h
    have hpu : ∀ b, w.heap.size ≤ b → ¬ b = p := fun b hb e => by have := K10.out.2.2; omega
    have hbu : ∀ b, w.heap.size ≤ b → ¬ U b := fun b hb hu => by have := H.out.1.ul b hu; omega
    have hto13 : CTo fb w p V U { C with s := { C.s with b := ix, t := tt, l := C.s.l.drop (ix - C.s.b).toNat, cf := C.upto ix, sn := d } } W13 V U { m with s := { m.s with b := ix, t := tt, A := A', n := m.s.n - mm, c := c', L := L', C := A9, nc := n9, cc := c9, cf := C.upto ix, S := A12, ns := nd, cs := c12, sn := d } } := by
     have hq7 : ∀ {size n : Nat} {A : Option Addr} {xs : List Value}, Rd w7 (w.heap.size ≤ ·) size A n xs → Rd W13 (fun b => ¬ U b) size A n xs := fun hr =>
      (kp.rd ((hr.below K8.out.2.1).below (K9_b.out)) fun b hb e => hpu b hb e).mono fun b hb => hbu b hb
     refine CTo.sNewK ((CTo.refl H.out.1).below K9.out.2.2.1) b13 kp ⟨hq7 Q7.out.2.1, fun y hy => ⟨hq7 (Q7.out.2.2.1 y hy).1, (Q7.out.2.2.1 y hy).2⟩, ?_, ?_, Q7.out.1.2.2.2, K9.out.2.1, K12.out.2.2.1⟩ ?_ rfl rfl rfl
     ·exact (kp.rd K9.out.1 fun b hb e => hpu b (Nat.le_trans K9.out.2.2.2.2.2.2 hb) e).mono fun b hb => hbu b (Nat.le_trans K9.out.2.2.2.2.2.2 hb)
     ·exact (kp13.rd K12.out.2.2.2 fun b hb e => hpu b hb e).mono fun b hb => hbu b hb
     ·show (⟨C.s.tm, C.s.vt, ix, tt, C.s.l.drop (ix - C.s.b).toNat, C.upto ix, d⟩ : St) = ⟨m.s.tm, m.s.vt, ix, tt, L'.map en, C.upto ix, d⟩
      rw [KE.out.1, KE.out.2.1, Q7.out.1.2.2.1, KE.out.2.2.2.2.1]
      have h8 : (ix - C.s.b).toNat = mm := by have h9 := Q7.out.1.2.1; rw [KE.out.2.2.1] at h9; omega
      rw [h8]
    obtain ⟨C1, hC1⟩ : ∃ C1 : Cr, { C with s := { C.s with b := ix, t := tt, l := C.s.l.drop (ix - C.s.b).toNat, cf := C.upto ix, sn := d } } = C1 := ⟨_, rfl⟩
    obtain ⟨m1, hm1⟩ : ∃ m1 : Mb, { m with s := { m.s with b := ix, t := tt, A := A', n := m.s.n - mm, c := c', L := L', C := A9, nc := n9, cc := c9, cf := C.upto ix, S := A12, ns := nd, cs := c12, sn := d } } = m1 := ⟨_, rfl⟩
    have hmq : m1.q = m.q := by rw [← hm1]
    have hpe : C1.peers = C.peers := by rw [← hC1]
    have hR9 : C.compact ix d = ({ C1 with peers := fun x => (C.peers x).map offP }, 0) := by rw [E1.out, ← hC1]
    rw [hC1, hm1] at hto13
    have G := Lib.hid (And.intro hto13 (And.intro hmq (And.intro hpe (show R = ({ C1 with peers := fun x => (C.peers x).map offP }, 0) from HR.out.symm.trans hR9))))
    have c16 : W13.cell? ⟨p, 16, none⟩ = some (.map (some m.q)) := b13.c 16
    obtain ⟨DD, hown, hd⟩ := hto13.cx.pm
    rw [hmq] at hown
    rw [hpe] at hd
    have hsz := hd.size (hown.entries int_key)
    have hown' := (owns_tight hown).mono hsz
    have HD := Lib.hid hd
    have hqp : m.q ≠ p ∧ m.q < w.heap.size := ⟨H.out.1.qp, H.out.1.pm.lt⟩
    have hp13 : p < W13.heap.size := b13.lt
    have B13 := Lib.hid (And.intro b13 (And.intro hqp hp13))
    have K13 := Lib.hid kp13.size
    clear hW13 kp13 b13 kp hpu hbu hto13 hC1 hm1 hmq hpe hR9 hown hd hsz p2 p3 p4 p6 f2 f3 f4 f6 hqp hp13
    go_wp2_with (at_range; refine wpList_range_own _ rfl _ _ rfl _ _ int_key Tryz.underlying106 peR m.q 64 DD rfl hown' ?_; intro w14 hrg0 hg0 hs0)
    go_frame
    have hk0 : Kept (· = m.q) W13 w14 := (Kept.refl _ _).grown hg0 fun b e => by cases e
    have R0 := Lib.hid (And.intro hrg0 (And.intro hk0 hs0))
    clear hown' c16 hrg0 hg0 hs0 hk0
    go_loopg [9, 10] (Maps.size DD) (fun gm s9 s10 wr => ∃ (D' : DataW Unit) (left : Lit → Bool), wr.ranges Tryz.prog 3 peR m.q W13.heap.size 64 D' left gm ∧ PmD D' (offL C.peers left) ∧ Kept (· = m.q) W13 wr)
    case atStart => exact ⟨DD, Maps.has DD, R0.out.1, by rw [offL_start HD.out]; exact HD.out, R0.out.2.1⟩
    case round =>
     obtain ⟨D', left, hrg, hpd, hkr⟩ := hrel
     have RR := Lib.hid (And.intro hrg (And.intro hpd hkr))
     clear hpd hkr R0
     go_wp2_with (at_next; refine wpList_next_ranges _ rfl _ rfl _ int_key peR (Value.int .i64) peV (fun key kl hk => by obtain ⟨x, rfl, _⟩ := Maps.keyOf_int_inv Tryz.underlying3 hk; exact ⟨x, rfl⟩) (fun v y hv => by obtain ⟨q, rfl, _⟩ := peR_inv hv; exact ⟨q, rfl⟩) m.q W13.heap.size 64 D' left _ rfl hrg ?_ ?_)
     ·intro hc0 hl0
      have hpm : Pm wr m.q (fun x => (C.peers x).map offP) := Pm.of RR.out.1.owns (by rw [← offL_end hl0]; exact RR.out.2.1)
      have HP := Lib.hid hpm
      clear hl0 hc0 hrg hpm
      go_wp2_with fail
      go_ret
      rw [G.out.2.2.2]
      refine ⟨m1, rfl, ?_⟩
      have hk := RR.out.2.2
      have hp := HP.out
      rw [← G.out.2.1] at hk hp
      exact G.out.1.remap hk hp
     ·intro x q kl y y2 w3 cnt1 hkey hlx hR3 hat hrg3 hlt hg3 hs3 hen
      obtain ⟨x', ex, rfl, _⟩ := Maps.keyOf_int_inv Tryz.underlying3 hkey
      injection ex with _ ex
      subst ex
      simp only [peR_mk, Option.some.injEq, Prod.mk.injEq] at hR3
      obtain ⟨rfl, rfl⟩ := hR3
      have hq := RR.out.2.1.here hat
      have hxr := RR.out.2.1.key x (by rw [hq]; rfl)
      have hql : m.q < W13.heap.size := by have h1 := B13.out.2.1.2; have h2 := B13.out.1.lt; have h3 := K9.out.2.2.1.size; have h4 := K10.out.1.size; have h5 := K12.out.1.size; have h6 := K13.out; omega
      have hne : W13.heap.size ≠ m.q := by omega
      have hk3 : Kept (· = m.q) W13 w3 := RR.out.2.2.trans ((Kept.refl (· = W13.heap.size) wr).grown hg3 fun b e => by injection e with e; exact e.symm) fun b hb e => by have h9 : b = W13.heap.size := e; omega
      have hin3 : ∃ es clock, w3.heap[m.q]? = some (.map es clock) ∧ ∃ x0 ∈ es.toList, (Go.WideElems.rg Tryz.prog 3 peR x0).1 = .int .i64 x := by
       obtain ⟨es, clock, h1, h2⟩ := ranges_in RR.out.1 hlx
       exact ⟨es, clock, (hg3.block m.q RR.out.1.owns.lt (fun e => hne (Option.some.inj e).symm)).trans h1, h2⟩
      have K3 := Lib.hid (And.intro hq (And.intro hxr (And.intro hql (And.intro hk3 (And.intro hin3 (And.intro hrg3 (And.intro hlx hkey)))))))
      clear hq hxr hql hne hk3 hin3 hrg3 hlx hkey hat hg3 hs3 hrg
      unfold peV at hen ⊢
      go_upto_region 15 with (fail)
      obtain ⟨W4, hW4⟩ : ∃ W4, W4 = w3.alloc (.cells #[.int .i64 q.nx, .int .i64 q.mt, .int .i64 q.of, .int .i64 q.rd] 130) := ⟨_, rfl⟩
      have z4 : Bx W4 w3.heap.size #[.int .i64 q.nx, .int .i64 q.mt, .int .i64 q.of, .int .i64 q.rd] := by subst hW4; exact Bx.new _ _ 130 rfl
      have hb4 : Below w3.heap.size w3 W4 := by subst hW4; exact (Below.refl _ _).alloc (Nat.le_refl _) _
      have hr4 := K3.out.2.2.2.2.2.1.alloc (.cells #[.int .i64 q.nx, .int .i64 q.mt, .int .i64 q.of, .int .i64 q.rd] 130)
      rw [← hW4] at hr4
      rw [← hW4]
      have c2 : W4.cell? ⟨w3.heap.size, 2, none⟩ = some (.int .i64 q.of) := z4.c 2
      have f2 := z4.f 2
      have K4 := Lib.hid (And.intro z4 (And.intro hb4 hr4))
      clear hW4 z4 hb4 hr4 hen
      go_upto_region 16 with (fail)
      obtain ⟨W5, hW5⟩ : ∃ W5, W5 = W4.setCell ⟨w3.heap.size, 2, none⟩ (.int .i64 0) := ⟨_, rfl⟩
      have z5 : Bx W5 w3.heap.size #[.int .i64 q.nx, .int .i64 q.mt, .int .i64 0, .int .i64 q.rd] := by subst hW5; exact K4.out.1.set 2 _
      have hs3 : W13.heap.size < w3.heap.size := K3.out.2.2.2.2.2.1.lt
      have hg5 : W4.grownBy W5 (some w3.heap.size) := by subst hW5; exact gb_set _ _ 2 _
      have hr5 : W5.ranges Tryz.prog 3 peR m.q W13.heap.size 64 D' (fun z => left z && !z.sameKey (.int .i64 x)) cnt1 := K4.out.2.2.kept hg5 (fun e => by have h1 := Option.some.inj e; have h2 := K3.out.2.2.1; omega) (fun e => by have h1 := Option.some.inj e; omega)
      have hk5 : Kept (· = m.q) W13 W5 := (K3.out.2.2.2.1.trans (Kept.of_new (U := (· = m.q)) K4.out.2.1) fun b _ h => h).trans ((Kept.refl (· = w3.heap.size) W4).grown hg5 fun b e => by injection e with e; exact e.symm) fun b hb e => by have h9 : b = w3.heap.size := e; omega
      have hin5 : ∃ es clock, W5.drew.heap[m.q]? = some (.map es clock) ∧ ∃ x0 ∈ es.toList, (Go.WideElems.rg Tryz.prog 3 peR x0).1 = .int .i64 x := by
       obtain ⟨es, clock, h1, h2⟩ := K3.out.2.2.2.2.1
       have h9 : m.q < w3.heap.size := by have h3 := K3.out.2.2.1; omega
       exact ⟨es, clock, ((hg5.block m.q (Nat.lt_of_lt_of_le h9 K4.out.2.1.size) (fun e => by have h8 := Option.some.inj e; omega)).trans (K4.out.2.1.block m.q h9)).trans h1, h2⟩
      have hr5d : W5.drew.ranges Tryz.prog 3 peR m.q W13.heap.size 64 D' (fun z => left z && !z.sameKey (.int .i64 x)) cnt1 := hr5
      obtain ⟨w6, hrun6, hr6, hg6⟩ := ranges_store hr5d int_key Tryz.underlying106 (by unfold maxLen; omega) K3.out.2.2.2.2.2.2.2 (peR_mk (offP q)) hin5
      unfold peV offP at hrun6
      have hbp : Bx W5 p ((((((m.cells C).setIfInBounds 5 (.slice A9 n9 c9)).setIfInBounds 2 (.int .i64 ix)).setIfInBounds 3 (.int .i64 tt)).setIfInBounds 4 (.slice A' (m.s.n - mm) c')).setIfInBounds 6 (.slice A12 nd c12)) := hk5.bx B13.out.1 fun e => B13.out.2.1.1 (show m.q = p from (show p = m.q from e).symm)
      have F16 : Hid (∀ W', Below W5.heap.size W5 W' → W'.cell? ⟨p, 16, none⟩ = some (.map (some m.q)) ∧ (W'.cell? ⟨w3.heap.size, 0, none⟩ = some (.int .i64 q.nx) ∧ W'.cell? ⟨w3.heap.size, 1, none⟩ = some (.int .i64 q.mt) ∧ W'.cell? ⟨w3.heap.size, 2, none⟩ = some (.int .i64 0) ∧ W'.cell? ⟨w3.heap.size, 3, none⟩ = some (.int .i64 q.rd))) := Lib.hid fun W' hb =>
       ⟨(hbp.below hb).c 16, (z5.below hb).c 0, (z5.below hb).c 1, (z5.below hb).c 2, (z5.below hb).c 3⟩
      have hk6 : Kept (· = m.q) W13 w6 := (hk5.drew).grown hg6 fun b e => by injection e with e; exact e.symm
      have him : Maps.IsMap D' := by obtain ⟨es, clock, _, _, _, h9⟩ := RR.out.1.owns; exact ⟨_, h9⟩
      have hpd6 : PmD (D'.put (.int .i64 x) (peD (offP q))) (offL C.peers (fun z => left z && !z.sameKey (.int .i64 x))) := by
       rw [← offL_step K3.out.2.2.2.2.2.2.1 K3.out.1]
       exact RR.out.2.1.put him K3.out.2.1 (offP q)
      rw [← hW5]
      have K6 := Lib.hid (And.intro hr6 (And.intro hpd6 hk6))
      clear hW5 z5 hs3 hg5 hr5 hk5 hin5 hr5d hbp hr6 hg6 hk6 him hpd6 c2 f2
      refine wp_region_S 6 (fun W' => Below W5.heap.size W5 W') (.take 0 (.take 1 (.take 2 (.take 3 (.take 4 (.take 5 (.one 6 (.nil)))))))) (by kernel_rfl) (Below.refl _ _).drew (fun _ _ _ _ h => h) (fun hS => ?_)
      repeat (first
       | (refine wpS_take (v := ?_) rfl rfl (by rfl) ?_ ?_; rotate_left; (intro W hW; have hf := F16.out W hW; go_split_ands; go_simp; try with_reducible rfl); try simp only [Act.put, lyA, lyB, lyC])
       | (refine wpS_skip rfl rfl (by rfl) ?_; try simp only [Act.put, lyA, lyB, lyC]))
      refine wpS_last rfl (by rfl) (fun K hK => ?_)
      go_simp
      refine hK _ _ ?_
      clear hK K
      try simp only [Act.put, lyA, lyB, lyC]
      refine wpS_nil ?_
      clear hrun6 hS
      go_wp2_with fail
      go_roundg cnt1
      case measure => exact hlt
      case rel => exact ⟨_, _, K6.out.1, K6.out.2.1, K6.out.2.2⟩
end Go.Proofs.YtmhaahcbmdhinaaGreatDoor
namespace Go.Proofs.YtmhaahcbmdhinaaGreatDoor
set_option linter.unusedVariables false
set_option linter.unusedSimpArgs false
theorem lstB_cons (t : Int) (e : En) (l : List En) : lstB t (e :: l) = lstB e.b l := by
 unfold lstB
 cases l with
 | nil => rfl
 | cons a l =>
  rw [List.getLast?_cons_cons]
  cases h : (a :: l).getLast? with
  | none => simp at h
  | some y => rfl
theorem rgt_le {ix : Int} : ∀ {t : Int} {i : Nat} {l : List En}, rgt ix t i l = true → t ≤ lstB t l ∧ ∀ e ∈ l, e.b ≤ lstB t l
 | t, i, [], _ => ⟨Int.le_refl _, fun _ h => by cases h⟩
 | t, i, e :: l, h => by
  have h' : (okE ix t i e && rgt ix e.b (i + 1) l) = true := h
  rw [Bool.and_eq_true] at h'
  obtain ⟨h1, h2⟩ := rgt_le h'.2
  have h3 := (okE_iff.1 h'.1).2.2.2.1
  rw [lstB_cons]
  refine ⟨by omega, fun x hx => ?_⟩
  rcases List.mem_cons.1 hx with rfl | hx
  ·exact h1
  ·exact h2 x hx
theorem lstB_max {t tm : Int} {l : List En} (h0 : t ≤ tm) (h : ∀ e ∈ l, e.b ≤ tm) : lstB t l ≤ tm := by
 unfold lstB
 cases hl : l.getLast? with
 | none => exact h0
 | some e => exact h e (List.mem_of_getLast? hl)
theorem mcut_mem {b : Int} {c : List En} {e x : En} (h : x ∈ mcut b c e) : x ∈ c := by
 unfold mcut at h
 split at h
 ·exact List.mem_of_mem_take h
 ·exact h
theorem mloop_mem {b : Int} : ∀ (es : List En) (s : List En × Int) (x : En), x ∈ (mloop b s es).1 → x ∈ s.1 ∨ x ∈ es
 | [], s, x, h => .inl h
 | e :: r, s, x, h => by
  unfold mloop at h
  split at h
  ·exact (mloop_mem r s x h).imp_right fun h => List.mem_cons_of_mem _ h
  ·split at h
   ·split at h
    ·exact .inl (mcut_mem h)
    ·rcases mloop_mem r _ x h with h | h
     ·rcases List.mem_append.1 h with h | h
      ·exact .inl (mcut_mem h)
      ·rw [List.mem_singleton.1 h]
       exact .inr (List.mem_cons_self ..)
     ·exact .inr (List.mem_cons_of_mem _ h)
   ·rcases mloop_mem r _ x h with h | h
    ·exact .inl (mcut_mem h)
    ·exact .inr (List.mem_cons_of_mem _ h)
theorem St.may_parts {s : St} : s.may = true ↔ lmay s.b s.t s.l = true ∧ cmay s.cf = true ∧ (s.l.all fun e => !rbad e.c e.d) = true ∧ lstB s.t s.l ≤ s.tm ∧ s.tm ≤ 1099511627776 ∧ 0 ≤ s.vt ∧ s.vt ≤ 64 := by
 unfold St.may
 simp only [Bool.and_eq_true, decide_eq_true_eq, and_assoc]
theorem newer_tm (C : Cr) (x : Ms) : x.term ≤ (C.newer x).s.tm := by
 unfold Cr.newer
 split
 ·show x.term ≤ x.term; omega
 ·omega
theorem ahead_no {x : Ms} (h : x.ahead = false) : x.lt ≤ x.term ∧ ∀ e ∈ x.es, e.b ≤ x.term := by
 unfold Ms.ahead at h
 rw [Bool.or_eq_false_iff] at h
 refine ⟨by have := of_decide_eq_false h.2; omega, fun e he => ?_⟩
 have h1 := List.any_eq_false.1 h.1 e he
 simp at h1
 exact h1
section
variable {C : Cr} {k : Nat}
theorem Cr.Ok.add (h : C.Ok k) {x : Ms} (hx : x.may = true) (ha : x.ahead = false) (ht : x.term ≤ C.s.tm) (draw j : Int) : (C.add x draw j).1.Ok k := by
 unfold Cr.add
 split
 ·exact h
 ·split
  ·exact h
  ·rename_i hrd
   dsimp only
   split
   ·exact h.led hx draw
   ·split
    ·rename_i hmg
     have hmg : mergeOk C.s.b C.s.t C.s.l x.ix x.lt x.es = true := hmg
     rw [mergeOk_iff] at hmg
     obtain ⟨m1, m2, m3, m4, m5, m6⟩ := hmg
     obtain ⟨s1, s2, s3, s4, s5, s6, s7⟩ := St.may_parts.1 h.may
     have hmem := fun e he => mloop_mem (b := C.s.b) x.es (C.s.l, max x.ix C.s.b) e he
     have hb := (lmay_iff.1 s1)
     have hle := rgt_le hb.2.2
     have hrd' : rdE x.es = true := by cases h9 : rdE x.es with
      | true => rfl
      | false => exact absurd h9 hrd
     have hwl : ((C.led x draw).withLog (mergeR C.s.b C.s.l x.ix x.es).1).Ok k := by
      refine (h.led hx draw).withLog (St.may_parts.2 ⟨m6, s2, ?_, ?_, s5, s6, s7⟩)
      ·refine List.all_eq_true.2 fun e he => ?_
       rcases hmem e he with he | he
       ·exact List.all_eq_true.1 s3 e he
       ·exact List.all_eq_true.1 hrd' e he
      ·refine lstB_max (by have h9 : lstB C.s.t C.s.l ≤ C.s.tm := s4; show C.s.t ≤ C.s.tm; have := hle.1; omega) fun e he => ?_
       show e.b ≤ C.s.tm
       rcases hmem e he with he | he
       ·have h9 : lstB C.s.t C.s.l ≤ C.s.tm := s4
        have := hle.2 e he
        omega
       ·have := (ahead_no ha).2 e he
        omega
     refine hwl.withCommit ?_
     have h1 := h.commit
     have h2 := (Ms.may_in hx).2.2.2.2.2.2.1
     show 0 ≤ max C.commit (min x.cm _) ∧ max C.commit (min x.cm _) ≤ _
     omega
    ·exact h.led hx draw
theorem Cr.Ok.has (h : C.Ok k) {who ix : Int} (hw : 1 ≤ who ∧ who ≤ 64) (hi : 0 ≤ ix ∧ ix ≤ 1099511627776) : (C.has who ix).1.Ok k := by
 have h1 : (C.hasE who ix).1.Ok k := (h.put hw ((h.of who).has hi h.last)).advance
 rw [chas_eq]
 split <;> exact h1
theorem Cr.Ok.told (h : C.Ok k) {x : Ms} (hx : x.may = true) : (C.told x).1.Ok k := by
 obtain ⟨_, hfr, _, _, hix, _, _, hrd, hof, _⟩ := Ms.may_in hx
 have hp := h.of x.fr
 have h1 := hp.nx
 have h2 := hp.mt
 have h3 := hp.of
 have h4 := hp.rd
 have hp1 : ({ C.of x.fr with rd := max (C.of x.fr).rd x.rd } : Pe).Ok := ⟨h1, h2, h3, by show 0 ≤ max _ x.rd ∧ max _ x.rd ≤ _; omega⟩
 have hC1 := h.put hfr hp1
 unfold Cr.told
 dsimp only
 split
 ·exact hC1.has hfr hix
 ·split
  ·exact hC1.put hfr ⟨by show 1 ≤ max ((C.of x.fr).mt + 1) (min (x.ix + 1) ((C.of x.fr).nx - 1)) ∧ max ((C.of x.fr).mt + 1) (min (x.ix + 1) ((C.of x.fr).nx - 1)) ≤ _; omega, h2, by show (0 : Int) ≤ 0 ∧ (0 : Int) ≤ _; omega, hp1.rd⟩
  ·split
   ·exact hC1
   ·refine hC1.put hfr ⟨h1, h2, ?_, hp1.rd⟩
    show 0 ≤ (if _ then x.off else 0) ∧ (if _ then x.off else 0) ≤ 1099511627776
    split
    ·exact hof
    ·omega
theorem bytesS_len (most : Nat) (s : RdS) : (bytesS most s).2.length ≤ most := by
 unfold bytesS
 split
 ·exact Nat.zero_le _
 ·split
  ·exact Nat.zero_le _
  ·split
   ·exact Nat.zero_le _
   ·simp only [List.length_take]
    omega
theorem Cr.Ok.install (h : C.Ok k) {x : Ms} (hx : x.may = true) (ha : x.ahead = false) (ht : x.term ≤ C.s.tm) (hl : ¬ x.lt < 1) (hi : 1 ≤ x.ix) (text : List UInt8) : ((C.install x text).getD C).Ok k := by
 cases hc : confD (bytesS 1048576 (text, 0)).2 with
 | none => rw [inst_none (.inr hc)]; exact h
 | some cf =>
  by_cases hd : doneS (bytesS 1048576 (bytesS 1048576 (text, 0)).1).1 = 0
  ·rw [inst_some hd hc]
   obtain ⟨_, _, _, _, hix, hlt, _⟩ := Ms.may_in hx
   obtain ⟨s1, s2, s3, s4, s5, s6, s7⟩ := St.may_parts.1 h.may
   have hal := (ahead_no ha).1
   have hm : ({ C.s with b := x.ix, t := x.lt, l := instL C x, cf := cf, sn := (bytesS 1048576 (bytesS 1048576 (text, 0)).1).2 } : St).may = true := by
    refine St.may_parts.2 ?_
    show lmay x.ix x.lt (instL C x) = true ∧ cmay cf = true ∧ ((instL C x).all fun e => !rbad e.c e.d) = true ∧ lstB x.lt (instL C x) ≤ C.s.tm ∧ _
    unfold instL
    by_cases ht2 : C.termOf x.ix = (0, x.lt)
    ·rw [if_pos ht2]
     have ht3 : termL C.s.b C.s.t C.s.l x.ix = (0, x.lt) := by
      have h9 : compL C.s.b C.s.t C.s.l x.ix = (0, x.lt) := ht2
      rwa [compL_yes s1] at h9
     have hr : C.s.b ≤ x.ix ∧ x.ix ≤ lstA C.s.b C.s.l := by
      unfold termL at ht3
      split at ht3
      ·cases ht3
      ·split at ht3
       ·cases ht3
       ·omega
     have hla := lmay_last s1
     obtain ⟨d1, d2, _, d4⟩ := lmay_drop (ix := x.ix) (m := (x.ix - C.s.b).toNat) s1 (by omega) (by omega)
     rw [ht3] at d1
     injection d1 with _ d1
     rw [← d1] at d2 d4
     exact ⟨d2, confD_may' hc, List.all_eq_true.2 fun e he => List.all_eq_true.1 s3 e (List.mem_of_mem_drop he), by rw [d4]; exact s4, s5, s6, s7⟩
    ·rw [if_neg ht2]
     exact ⟨lmay_iff.2 ⟨.inr ⟨hi, hix.2, by omega, hlt.2⟩, Nat.zero_le _, rfl⟩, confD_may' hc, rfl, by show x.lt ≤ C.s.tm; omega, s5, s6, s7⟩
   exact ⟨hm, bytesS_len _ _, h.id, h.span, h.role, h.leader, hix, h.round, h.gone, h.wait, h.votes, h.peers, h.key, h.hv, h.big⟩
  ·rw [inst_none (.inl hd)]; exact h
theorem Cr.Ok.take (h : C.Ok k) {x : Ms} (hx : x.may = true) (ha : x.ahead = false) (ht : x.term ≤ C.s.tm) (draw : Int) : (C.take x draw).1.Ok k := by
 by_cases h1 : x.term < C.s.tm
 ·rw [takeC_low h1]; exact h
 ·by_cases h2 : x.ix ≤ C.commit
  ·rw [takeC_old h1 h2]; exact h.led hx draw
  ·have hl := h.led hx draw
   have hg : ((C.led x draw).gets (putR C.key C.hv x.ix x.off x.data x.ok)).Ok k := by
    have h3 := putR_ok (off := x.off) (piece := x.data) (last := x.ok) (h := C.hv) h.key (show I64 x.ix by have h9 := (Ms.may_in hx).2.2.2.2.1; unfold I64; omega) h.hv
    exact { hl with key := h3.1, hv := h3.2 }
   by_cases hd : (putR C.key C.hv x.ix x.off x.data x.ok).2.2.2.2 = false
   ·rw [takeC_more h1 h2 rfl hd]; exact hg
   ·by_cases hlt : x.lt < 1
    ·rw [takeC_zero h1 h2 rfl hd hlt]; exact hg
    ·rw [takeC_in h1 h2 rfl hd hlt]
     exact hg.install hx ha ht hlt (by have := h.commit; omega) _
theorem Cr.Ok.step (h : C.Ok k) (hk : k + 1 ≤ 1000000) (x : Ms) (draw j : Int) : (C.step x draw j).1.Ok (k + 1) := by
 unfold Cr.step
 split
 ·exact h.mono (by omega) hk
 ·rename_i hno
  simp only [not_or] at hno
  have hm : x.may = true := by cases h9 : x.may with
   | true => rfl
   | false => exact absurd h9 hno.1
  have ha : x.ahead = false := by cases h9 : x.ahead with
   | false => rfl
   | true => exact absurd h9 hno.2.2
  have hn := h.newer hm
  have ht := newer_tm C x
  dsimp only
  split
  ·exact (hn.vote hm draw).mono (by omega) hk
  ·split
   ·exact hn.voted hm hk
   ·split
    ·exact (hn.add hm ha ht draw j).mono (by omega) hk
    ·split
     ·exact (hn.take hm ha ht draw).mono (by omega) hk
     ·split
      ·exact hn.mono (by omega) hk
      ·exact (hn.told hm).mono (by omega) hk
theorem Cr.Ok.compact (h : C.Ok k) (ix : Int) (sn : List UInt8) : (C.compact ix sn).1.Ok k := by
 by_cases h1 : C.commit < ix
 ·unfold Cr.compact; rw [if_pos h1]; exact h
 ·by_cases h2 : 1047552 < sn.length
  ·unfold Cr.compact; rw [if_neg h1, if_pos h2]; exact h
  ·obtain ⟨⟨kt, t⟩, ht⟩ : ∃ q, C.termOf ix = q := ⟨_, rfl⟩
   by_cases h3 : kt = 0
   ·subst h3
    rw [cmp_yes h1 h2 ht]
    obtain ⟨s1, s2, s3, s4, s5, s6, s7⟩ := St.may_parts.1 h.may
    have ht3 : termL C.s.b C.s.t C.s.l ix = (0, t) := by
     have h9 : compL C.s.b C.s.t C.s.l ix = (0, t) := ht
     rwa [compL_yes s1] at h9
    have hr : C.s.b ≤ ix ∧ ix ≤ lstA C.s.b C.s.l := by
     unfold termL at ht3
     split at ht3
     ·cases ht3
     ·split at ht3
      ·cases ht3
      ·omega
    have hla := lmay_last s1
    obtain ⟨d1, d2, _, d4⟩ := lmay_drop (ix := ix) (m := (ix - C.s.b).toNat) s1 (by omega) (by omega)
    rw [ht3] at d1
    injection d1 with _ d1
    rw [← d1] at d2 d4
    refine ⟨St.may_parts.2 ⟨d2, upto_may h.may ix, List.all_eq_true.2 fun e he => List.all_eq_true.1 s3 e (List.mem_of_mem_drop he), by show lstB t _ ≤ _; rw [d4]; exact s4, s5, s6, s7⟩, by show sn.length ≤ _; omega, h.id, h.span, h.role, h.leader, h.commit, h.round, h.gone, h.wait, h.votes, fun w q hq => ?_, h.key, h.hv, h.big⟩
    have hq : (C.peers w).map offP = some q := hq
    cases hp : C.peers w with
    | none => rw [hp] at hq; cases hq
    | some p0 =>
     rw [hp] at hq
     injection hq with hq
     subst hq
     have h8 := h.peers w p0 hp
     exact ⟨h8.1, ⟨h8.2.nx, h8.2.mt, by show (0 : Int) ≤ 0 ∧ (0 : Int) ≤ _; omega, h8.2.rd⟩⟩
   ·rw [cmp_err h1 h2 ht h3]; exact h
end
end Go.Proofs.YtmhaahcbmdhinaaGreatDoor
