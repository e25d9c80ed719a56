/- A member that is new, in memory.
   Walk: tollbarlaw13.sure.
   Walk: (*raft.Core).Read. (Printed by mkc20.py.)
   Walk: (*raft.Core).Heard.
   Walks: the entry of an index: entry.At, and the document's At. -/
import Derived.Test.YtmhaahcbmdhinaaGreatDoorK27
import Derived.Test.YtmhaahcbmdhinaaGreatDoorK19
import Derived.Test.YtmhaahcbmdhinaaGreatDoorK17
namespace Go.Proofs.YtmhaahcbmdhinaaGreatDoor
open Go.RowKit
set_option maxRecDepth 100000
set_option linter.unusedVariables false
set_option linter.unusedSimpArgs false
def Cr.new (id span draw : Int) (s : St) : Cr := ⟨s, 0, 0, s.b, 0, id, span, 0, drw span draw, [], fun _ => none, 0, []⟩
theorem Cr.Ok.new {id span draw : Int} {s : St} (hm : s.may = true) (hsn : s.sn.length ≤ 1048576) (h1 : 1 ≤ id ∧ id ≤ 64) (h2 : 2 ≤ span ∧ span ≤ 1000) : (Cr.new id span draw s).Ok 1 := by
  obtain ⟨_, _, h3, _⟩ := St.may_iff hm
  refine ⟨hm, hsn, h1, h2, by show (0 : Int) ≤ 0 ∧ (0 : Int) ≤ 2; decide, by show (0 : Int) ≤ 0 ∧ (0 : Int) ≤ 64; decide, ⟨h3.1, h3.2.1⟩, by show (0 : Int) ≤ 0 ∧ (0 : Int) ≤ ((1 : Nat) : Int); decide, by show (0 : Int) ≤ 0 ∧ (0 : Int) ≤ 2000; decide, drw_in h2, ⟨by show (0 : Nat) ≤ 1; decide, fun v hv => by cases hv⟩, (fun _ _ h => by cases h), by show I64 0; unfold I64; omega, by show (0 : Nat) ≤ _; omega, by decide⟩
def newMb (p : Nat) (s : Sv) : Mb := ⟨s, none, 0, 0, p, none, 0, 0⟩
theorem CX.ofNew {fb p : Nat} {W w' : World} {id span draw : Int} {s : St} {s' : Sv} (hfb : fb ≤ W.heap.size) (hb : Bx w' (p + 1) (coreC s' 0 0 s.b 0 id span 0 (drw span draw) (.slice none 0 0) p 0 (.slice none 0 0))) (ha : s'.At w' (fun b => W.heap.size ≤ b ∧ b < p)) (hs : s'.st = s) (hp : W.heap.size ≤ p) (hm : w'.heap[p]? = some (.map #[] 0)) :
    CX fb w' (p + 1) (fun b => b = p ∨ b = p + 1) (fun b => b = p ∨ b = p + 1) (Cr.new id span draw s) (newMb p s') := by
  have hpl := hb.lt
  refine ⟨hb, Pm.made_at hm, .inr rfl, .inl rfl, by show p ≠ p + 1; omega, (fun g hg => by cases hg), fun b h => h, fun b h => by rcases h with rfl | rfl <;> omega, fun b h => by rcases h with rfl | rfl <;> omega, ⟨rfl, .inl ⟨rfl, rfl⟩⟩, ha.mono fun b hb h => by have := hb.2; rcases h with rfl | rfl <;> omega, hs, Rd.none_, ⟨Nat.le_refl _, by simp [newMb, maxLen]⟩⟩
end Go.Proofs.YtmhaahcbmdhinaaGreatDoor
namespace Go.Proofs.YtmhaahcbmdhinaaGreatDoor
open Go.RowKit
set_option maxRecDepth 100000
set_option linter.unusedVariables false
set_option linter.unusedSimpArgs false
def sureC (i : Nat) : Cr := if i < 4 then lone0 4 4 i else lone1 4 4 [⟨1, 1, 0, []⟩] 0
theorem lon_one : LonL [⟨1, 1, 0, []⟩] := by
  have := LonL.nil.snoc (kd := 0) (d := []) (.inl rfl) (by simp) (by simp)
  exact this
theorem sureC_tick {i : Nat} (h : i < 4) : (sureC i).tick 0 = (sureC (i + 1), []) := by
  unfold sureC
  rw [if_pos h]
  by_cases h2 : i + 1 < 4
  · rw [if_pos h2, lone_tick0 (by omega)]
    rfl
  · rw [if_neg h2, lone_lead (by omega)]
    rfl
theorem sureC_prop : (sureC 4).propose 1 [120] = (lone1 4 4 [⟨1, 1, 0, []⟩, ⟨2, 1, 1, [120]⟩] 0, 2, [], 0) := by
  have := lone_propose (span := 4) (wait := 4) (r := 0) lon_one (by simp) (by simp) [120]
  exact this
theorem i64_0 : I64 0 := by unfold I64; omega
theorem St1_may : (St.mk 0 0 0 0 [] [1] []).may = true := by decide
set_option maxHeartbeats 12800000 in
theorem sure_any {fb : Nat} (w : World) (he : Env fb w) : Calls Tryz.prog 11 #[] w (BoolPost w true) := by
  obtain ⟨W0, hW0⟩ : ∃ W0, W0 = w.alloc (.cells #[.int .i64 1] 3) := ⟨_, rfl⟩
  have hb0 : Below w.heap.size w W0 := by subst hW0; exact (Below.refl _ _).alloc (Nat.le_refl _) _
  have r0 : Rd W0 T 1 (some ⟨w.heap.size, 0, none⟩) 1 (ii [1]) := by subst hW0; exact (show Rd _ _ 1 _ 1 (ii [1]) from Rd.blit1 (cs := #[.int .i64 1]) rfl).any
  have a0 : Sv.At ⟨0, 0, 0, 0, none, 0, 0, [], some ⟨w.heap.size, 0, none⟩, 1, 1, [1], none, 0, 0, []⟩ W0 T := ⟨Rd.none_, (fun y hy => by cases hy), r0, Rd.none_, ⟨Nat.le_refl _, by simp [maxLen]⟩, ⟨Nat.le_refl _, by simp [maxLen]⟩, ⟨Nat.le_refl _, by simp [maxLen]⟩⟩
  have hf : Sv.Fit ⟨0, 0, 0, 0, none, 0, 0, [], some ⟨w.heap.size, 0, none⟩, 1, 1, [1], none, 0, 0, []⟩ := ⟨⟨i64_0, i64_0, i64_0, i64_0⟩, (fun y hy => by cases hy), by show (0 : Nat) ≤ 1000000 ∧ (1 : Nat) ≤ 1000000 ∧ (0 : Nat) ≤ 100000000; omega⟩
  have hnw := new_ok 1 4 0 _ W0 a0 hf (he.new hb0).ev (by omega) (by omega) (by omega) (by omega)
  have HW := Lib.hid hW0
  have H := Lib.hid (And.intro he hb0)
  have Hnw := Lib.hid hnw
  unfold Sv.val stA at Hnw
  clear hW0 hb0 r0 a0 hf hnw he
  go_enter Tryz.func11, Tryz.ntmps11
  go_wp2_with fail
  rw [← HW.out]
  refine Hnw.out.mono ?_
  intro e w1 h1
  have h1 : NewPost W0 1 4 0 ⟨0, 0, 0, 0, [], [1], []⟩ e w1 := h1
  unfold NewPost at h1
  rw [if_pos St1_may] at h1
  obtain ⟨p, s', rfl, b1, a1, e1, hp, m1, hb1⟩ := h1
  have hb1' : Below w.heap.size w w1 := H.out.2.trans (hb1.mono H.out.2.size)
  have hcx : CX w.heap.size w1 (p + 1) (fun b => b = p ∨ b = p + 1) (fun b => b = p ∨ b = p + 1) (sureC 0) (newMb p s') := CX.ofNew H.out.2.size b1 a1 e1 hp m1
  have hok : (sureC 0).Ok 1 := Cr.Ok.new (id := 1) (span := 4) (draw := 0) St1_may (by show (0 : Nat) ≤ _; omega) (by decide) (by decide)
  have hle := H.out.1.le
  have hen : Env w.heap.size w := ⟨w, rfl, H.out.1.ev, H.out.1.tab, Below.refl _ _⟩
  have hen1 : Env w.heap.size w1 := hen.new hb1'
  have S1 := Lib.hid (And.intro hcx (And.intro hok (And.intro hen1 hb1')))
  have hpw : w.heap.size ≤ p := Nat.le_trans H.out.2.size hp
  clear b1 a1 e1 hp m1 hb1 hb1' hcx hok hle hen hen1
  go_wp2_with fail
  go_loopg [3] 4 (fun gm s3 wr => ∃ (i : Nat) (V' U' : Nat → Prop) (m' : Mb), gm = 4 - i ∧ i ≤ 4 ∧ s3 = .int .i64 i ∧ CTo w.heap.size w1 (p + 1) (fun b => b = p ∨ b = p + 1) (fun b => b = p ∨ b = p + 1) (sureC i) wr V' U' m' ∧ (sureC i).Ok 1)
  case atStart => exact ⟨0, _, _, _, by omega, by omega, rfl, CTo.refl S1.out.1, S1.out.2.1⟩
  case round =>
    obtain ⟨i, V', U', m', hm, hi, rfl, hR⟩ := hrel
    have Hm := Lib.hid hm
    have R := Lib.hid hR
    clear hm hR
    have hen : Env w.heap.size wr := S1.out.2.2.1.kept R.out.1.kept S1.out.1.vf
    by_cases hlt : i < 4
    · have hltI : decide ((i : Int) < 4) = true := decide_eq_true (by omega)
      have htk := tick_any 0 R.out.1.cx R.out.2 hen
      have htk2 := R.out.2.tick 0
      rw [sureC_tick hlt] at htk htk2
      have Htk := Lib.hid (And.intro htk htk2)
      clear htk htk2 hen
      go_wp2_with fail
      refine Htk.out.1.mono ?_
      intro e w2 h2
      obtain ⟨A2, n2, c2, X2, V2, U2, m2, rfl, _, _, _, t2⟩ := h2
      have T2 := Lib.hid t2
      clear t2
      go_wp2_with fail
      go_roundg (4 - (i + 1))
      case measure => have := Hm.out; omega
      case rel => exact ⟨i + 1, V2, U2, m2, rfl, by omega, by go_num, R.out.1.trans T2.out, Htk.out.2⟩
    · have hltI : decide ((i : Int) < 4) = false := decide_eq_false (by omega)
      obtain rfl : i = 4 := by omega
      obtain ⟨W3, hW3⟩ : ∃ W3, W3 = wr.alloc (.cells #[.int .u8 120] 5 (1, 2)) := ⟨_, rfl⟩
      have hb3 : Below wr.heap.size wr W3 := by subst hW3; exact (Below.refl _ _).alloc (Nat.le_refl _) _
      have r3 : Rd W3 T 1 (some ⟨wr.heap.size, 0, none⟩) 1 (bs [120]) := by subst hW3; exact (show Rd _ _ 1 _ 1 (bs [120]) from Rd.blit1 (cs := #[.int .u8 120]) rfl).any
      have hpr := propose_any 1 (some ⟨wr.heap.size, 0, none⟩) 1 1 [120] (R.out.1.cx.below hb3) R.out.2 (hen.new hb3) r3 ⟨Nat.le_refl _, by simp [maxLen]⟩
      rw [sureC_prop] at hpr
      have Hpr := Lib.hid (And.intro hpr hb3)
      have HW3 := Lib.hid hW3
      clear hpr hb3 hW3 r3 hen
      have kc := fun (W : World) (C : Array Value) (n c : Nat) => Lib.run_convert_bytes_const (P := Tryz.prog) W 26 5 C n c Tryz.underlying26 Tryz.underlying5
      go_wp2_with fail
      clear kc
      try simp only [List.size_toArray, List.length_cons, List.length_nil, Nat.zero_add, Nat.reduceAdd]
      rw [← HW3.out]
      refine Hpr.out.1.mono ?_
      intro e w4 h4
      obtain ⟨A4, n4, c4, rfl, h4⟩ := h4
      obtain ⟨A5, n5, c5, X5, V5, U5, m5, _, _, _, _, t5⟩ := h4
      have T5 := Lib.hid t5
      clear t5
      have hvw := view_any T5.out.cx
      unfold Cr.viewV at hvw
      have Hvw := Lib.hid hvw
      clear hvw
      rw [errE0]
      go_wp2_with fail
      refine Hvw.out.mono ?_
      rintro e w6 ⟨rfl, hb6⟩
      have hbe : Below w.heap.size w w6 := by
        have h1 := S1.out.2.2.2.trans (Kept.below R.out.1.kept (fun b hb => by rcases hb with rfl | rfl <;> omega) S1.out.2.2.2.size)
        have h2 := h1.trans (Hpr.out.2.mono h1.size)
        have h3 := h2.trans (Kept.below T5.out.kept (fun b hb => R.out.1.cx.vf b hb) h2.size)
        exact h3.trans (hb6.mono h3.size)
      have HB := Lib.hid hbe
      clear hb6 hbe
      go_wp2_with fail
      go_ret
      exact ⟨rfl, HB.out.alloc HB.out.size _⟩
end Go.Proofs.YtmhaahcbmdhinaaGreatDoor
namespace Go.Proofs.YtmhaahcbmdhinaaGreatDoor
open Go.RowKit
set_option maxRecDepth 100000
set_option linter.unusedVariables false
set_option linter.unusedSimpArgs false
def ReadPost (fb : Nat) (W : World) (p : Nat) (V U : Nat → Prop) (r : Cr × Int × Int × List Ms × Int) (e : Ending) (w' : World) : Prop :=
  ∃ A n c, e = .returned (.tuple #[.int .i64 r.2.1, .int .i64 r.2.2.1, .slice A n c, errE r.2.2.2.2]) ∧ OutPost fb W p V U (r.1, r.2.2.2.1) (.returned (.slice A n c)) w'
theorem readNo {fb p : Nat} {W w' : World} {V U : Nat → Prop} {C : Cr} {m : Mb} {k : Int} {e : Ending} (h : CX fb W p V U C m) (hb : Below W.heap.size W w') (he : e = .returned (.tuple #[.int .i64 0, .int .i64 0, .slice none 0 0, errE k])) : ReadPost fb W p V U (C, 0, 0, [], k) e w' :=
  ⟨none, 0, 0, he, outNil ((CTo.refl h).below hb)⟩
theorem read_eq (C : Cr) : C.read = if C.role = 2 then (if C.ours = true then ((Cr.sendAll { C with round := C.round + 1 }).1, C.round + 1, C.commit, (Cr.sendAll { C with round := C.round + 1 }).2, 0) else (C, 0, 0, [], 31)) else (C, 0, 0, [], 30) := by
  unfold Cr.read
  by_cases h1 : C.role = 2
  · rw [if_neg (fun h => h h1), if_pos h1]
    cases C.ours <;> rfl
  · rw [if_pos h1, if_neg h1]
theorem CX.withRound {fb p : Nat} {w : World} {V U : Nat → Prop} {C : Cr} {m : Mb} (h : CX fb w p V U C m) (n : Int) : CTo fb w p V U { C with round := n } (w.setCell ⟨p, 10, none⟩ (.int .i64 n)) V U m :=
  (CTo.refl h).cells (h.bx.set 10 _) (gb_set _ p 10 _) rfl rfl rfl rfl
theorem Cr.Ok.withRound {C : Cr} {k : Nat} (h : C.Ok k) (hk : k + 1 ≤ 1000000) : ({ C with round := C.round + 1 } : Cr).Ok (k + 1) := by
  have h1 := h.mono (k' := k + 1) (by omega) hk
  have hr := h.round
  exact ⟨h1.may, h1.sn, h1.id, h1.span, h1.role, h1.leader, h1.commit, ⟨by show 0 ≤ C.round + 1; omega, by show C.round + 1 ≤ _; omega⟩, h1.gone, h1.wait, h1.votes, h1.peers, h1.key, h1.hv, h1.big⟩
set_option maxHeartbeats 12800000 in
theorem readC_any {fb p : Nat} {w : World} {V U : Nat → Prop} {C : Cr} {m : Mb} {k : Nat} (h : CX fb w p V U C m) (ho : C.Ok k) (hk : k + 1 ≤ 1000000) (he : Env fb w) :
    Calls Tryz.prog 22 #[.pointer (some ⟨p, 0, none⟩)] w (ReadPost fb w p V U C.read) := by
  have hrd := read_eq C
  have hf := h.fit ho
  have c7 : w.cell? ⟨p, 7, none⟩ = some (.int .i64 C.role) := h.bx.c 7
  have hou := ours_any h hf
  have Hou := Lib.hid hou
  have hr0 := ho.round
  have wr0 : IntKind.i64.wrap (C.round + 1) = C.round + 1 := by rw [IntKind.wrap_i64]; omega
  have H := Lib.hid (And.intro h (And.intro (ho.withRound hk) (And.intro he hrd)))
  clear h ho he hf hou hrd hr0
  by_cases hr : C.role = 2
  · have hr' : (C.role != 2) = false := by simp [hr]
    obtain ⟨qo, hqo⟩ : ∃ q, C.ours = q := ⟨_, rfl⟩
    have hrd := H.out.2.2.2
    rw [if_pos hr, hqo] at hrd
    have HR := Lib.hid hrd
    have Ho := Hou.out
    rw [hqo] at Ho
    have HO := Lib.hid Ho
    clear hrd Ho hqo Hou
    go_enter Tryz.func22, Tryz.ntmps22
    go_wp2_with fail
    refine HO.out.mono ?_
    rintro e w1 ⟨rfl, hb1⟩
    have hx1 := H.out.1.below hb1
    have hto := (CTo.refl H.out.1).below hb1
    have B1 := Lib.hid (And.intro hb1 hto)
    cases qo with
    | false =>
      clear hx1 hto hb1
      go_wp2_with fail
      refine bodyPost_ret (by simp [results, Tryz.results22]; rfl) rfl ?_
      rw [HR.out, if_neg (by intro h; cases h)]
      exact readNo H.out.1 B1.out.1 (by rw [errE_ne (by decide)])
    | true =>
      obtain ⟨W2, hW2⟩ : ∃ W2, W2 = w1.setCell ⟨p, 10, none⟩ (.int .i64 (C.round + 1)) := ⟨_, rfl⟩
      have hto2 : CTo fb w p V U { C with round := C.round + 1 } W2 V U m := by subst hW2; exact hto.trans (hx1.withRound _)
      have hen2 : Env fb W2 := H.out.2.2.1.kept hto2.kept H.out.1.vf
      have hal := sendAll_any hto2.cx.drew H.out.2.1 hen2.drew
      have d10 : w1.cell? ⟨p, 10, none⟩ = some (.int .i64 C.round) := hx1.bx.c 10
      have e10 := hx1.bx.f 10
      have FF : Hid (∀ W : World, (W.cell? ⟨p, 10, none⟩ = some (.int .i64 (C.round + 1)) ∧ W.cell? ⟨p, 9, none⟩ = some (.int .i64 C.commit)) → W.cell? ⟨p, 10, none⟩ = some (.int .i64 (C.round + 1)) ∧ W.cell? ⟨p, 9, none⟩ = some (.int .i64 C.commit)) := Lib.hid fun W h => h
      have T2 := Lib.hid (And.intro hto2 hW2)
      have Hal := Lib.hid hal
      clear hto hx1 hb1 hto2 hen2 hal hW2
      go_upto_region 8 with (fail)
      rw [← T2.out.2]
      clear d10 e10 c7
      refine wp_region_S 15 (fun W : World => W.cell? ⟨p, 10, none⟩ = some (.int .i64 (C.round + 1)) ∧ W.cell? ⟨p, 9, none⟩ = some (.int .i64 C.commit)) (.take 0 (.take 1 (.take 2 (.take 3 (.take 4 (.take 5 (.take 6 (.take 7 (.take 8 (.take 9 (.take 10 (.one 11 (.take 12 (.take 13 (.take 14 (.one 15 (.nil))))))))))))))))) (by kernel_rfl) ⟨T2.out.1.cx.drew.bx.c 10, T2.out.1.cx.drew.bx.c 9⟩ (fun _ _ _ _ h => h) (fun hS => ?_)
      repeat (first
        | (refine wpS_take (v := ?_) rfl rfl (by rfl) ?_ ?_; rotate_left; (intro W hW; have hf := FF.out W hW; go_split_ands; go_simp; try with_reducible rfl); try simp only [Act.put, List.setIfInBounds_toArray, List.set_cons_zero, List.set_cons_succ])
        | (refine wpS_skip rfl rfl (by rfl) ?_; try simp only [Act.put, List.setIfInBounds_toArray, List.set_cons_zero, List.set_cons_succ]))
      refine wpS_one rfl (by rfl) (fun K hK => ?_)
      go_simp
      go_at_call 50
      refine (Hal.out).mono ?_
      intro e w9 h9
      obtain ⟨A9, n9, c9, X9, rfl, r9, m9, x9, k9⟩ := h9
      have hs9 : C.sendAll.1.commit = C.commit ∧ C.sendAll.1.round = C.round := by unfold Cr.sendAll; rw [sendL_fst, knowL_eta]; exact ⟨rfl, rfl⟩
      have hs10 : (Cr.sendAll { C with round := C.round + 1 }).1.commit = C.commit ∧ (Cr.sendAll { C with round := C.round + 1 }).1.round = C.round + 1 := by unfold Cr.sendAll; rw [sendL_fst, knowL_eta]; exact ⟨rfl, rfl⟩
      have d9 : w9.cell? ⟨p, 9, none⟩ = some (.int .i64 C.commit) := by rw [← hs10.1]; exact x9.bx.c 9
      have d10 : w9.cell? ⟨p, 10, none⟩ = some (.int .i64 (C.round + 1)) := by have := x9.bx.c 10; rw [this]; exact congrArg (fun z => some (Value.int .i64 z)) hs10.2
      have D9 := Lib.hid (And.intro d10 d9)
      have K9 := Lib.hid (And.intro r9 (And.intro m9 (And.intro x9 k9)))
      clear r9 m9 x9 k9 hs9 hs10 d9 d10
      refine hK (fun W : World => W.cell? ⟨p, 10, none⟩ = some (.int .i64 (C.round + 1)) ∧ W.cell? ⟨p, 9, none⟩ = some (.int .i64 C.commit)) _ _ (fun _ h => h) D9.out ?_
      clear hK K
      try simp only [Act.put, List.setIfInBounds_toArray, List.set_cons_zero, List.set_cons_succ]
      repeat (first
        | (refine wpS_take (v := ?_) rfl rfl (by rfl) ?_ ?_; rotate_left; (intro W hW; have hf := FF.out W hW; go_split_ands; go_simp; try with_reducible rfl); try simp only [Act.put, List.setIfInBounds_toArray, List.set_cons_zero, List.set_cons_succ])
        | (refine wpS_skip rfl rfl (by rfl) ?_; try simp only [Act.put, List.setIfInBounds_toArray, List.set_cons_zero, List.set_cons_succ]))
      refine wpS_last rfl (by rfl) (fun K hK => ?_)
      go_simp
      refine hK _ _ ?_
      clear hK K
      try simp only [Act.put, List.setIfInBounds_toArray, List.set_cons_zero, List.set_cons_succ]
      refine wpS_nil ?_
      go_wp2_with fail
      refine bodyPost_ret (by simp [results, Tryz.results22]; rfl) rfl ?_
      rw [HR.out, if_pos (by trivial)]
      refine ⟨A9, n9, c9, by rw [errE0], ?_⟩
      exact OutPost.up (T2.out.1.below (Below.refl _ _).drew) (AllPost.out H.out.1.vq T2.out.1.cx.drew.ul ⟨A9, n9, c9, X9, rfl, K9.out.1, K9.out.2.1, K9.out.2.2.1, K9.out.2.2.2⟩)
  · have hr' : (C.role != 2) = true := by simp [hr]
    go_enter Tryz.func22, Tryz.ntmps22
    go_wp2_with fail
    refine bodyPost_ret (by simp [results, Tryz.results22]; rfl) rfl ?_
    rw [H.out.2.2.2, if_neg hr]
    exact readNo H.out.1 (Below.refl _ _) (by rw [errE_ne (by decide)])
end Go.Proofs.YtmhaahcbmdhinaaGreatDoor
namespace Go.Proofs.YtmhaahcbmdhinaaGreatDoor
open Go.RowKit
set_option maxRecDepth 100000
set_option linter.unusedVariables false
set_option linter.unusedSimpArgs false
/-- Who is noted so far. -/
def HInv (C : Cr) (rd : Int) (zs : List Int) (left : Lit → Bool) : Prop := ∀ who, decide (who ∈ zs) = (decide (who = C.id) || (!left (.int .i64 who) && (C.peers who).any fun q => decide (rd ≤ q.rd)))
theorem HInv.start {C : Cr} {D : DataW Unit} {rd : Int} (hd : PmD D C.peers) : HInv C rd [C.id] (Maps.has D) := fun who => by
  rw [hd.has_]
  have : (!(C.peers who).isSome && (C.peers who).any fun q => decide (rd ≤ q.rd)) = false := by
    cases C.peers who <;> simp
  rw [this]
  simp
theorem HInv.stepY {C : Cr} {zs : List Int} {left : Lit → Bool} {x rd : Int} {c : Pe} (h : HInv C rd zs left) (hl : left (.int .i64 x) = true) (hp : C.peers x = some c) (hc : rd ≤ c.rd) : HInv C rd (zs ++ [x]) (fun z => left z && !z.sameKey (.int .i64 x)) := fun who => by
  have := h who
  show _ = (decide (who = C.id) || (!(left (.int .i64 who) && !(Lit.int .i64 who).sameKey (.int .i64 x)) && (C.peers who).any fun q => decide (rd ≤ q.rd)))
  rw [sameKey_i]
  by_cases e : who = x
  · subst e
    rw [hl, hp]
    simp [hc]
  · have e1 : decide (who = x) = false := decide_eq_false e
    rw [e1]
    simp only [List.mem_append, List.mem_singleton, e, or_false, Bool.not_false, Bool.and_true]
    exact this
theorem HInv.stepN {C : Cr} {zs : List Int} {left : Lit → Bool} {x rd : Int} {c : Pe} (h : HInv C rd zs left) (hl : left (.int .i64 x) = true) (hp : C.peers x = some c) (hc : ¬ rd ≤ c.rd) : HInv C rd zs (fun z => left z && !z.sameKey (.int .i64 x)) := fun who => by
  have := h who
  show _ = (decide (who = C.id) || (!(left (.int .i64 who) && !(Lit.int .i64 who).sameKey (.int .i64 x)) && (C.peers who).any fun q => decide (rd ≤ q.rd)))
  rw [sameKey_i]
  by_cases e : who = x
  · subst e
    rw [hl] at this
    rw [this, hp]
    simp [hc]
  · have e1 : decide (who = x) = false := decide_eq_false e
    rw [e1]
    simp only [Bool.not_false, Bool.and_true]
    exact this
theorem HInv.done {C : Cr} {zs : List Int} {left : Lit → Bool} {rd : Int} (h : HInv C rd zs left) (hl : ∀ kl, left kl = false) (c : List Int) : quor c zs = (cmay c && decide (c.length < 2 * (c.filter (C.heardOf rd)).length)) := by
  have e : (fun x => decide (x ∈ zs)) = C.heardOf rd := funext fun who => by
    rw [h who, hl]
    rfl
  unfold quor cnt
  rw [e]
set_option maxHeartbeats 12800000 in
theorem heard_any {fb p : Nat} {w : World} {V U : Nat → Prop} {C : Cr} {m : Mb} {k : Nat} (rd : Int) (h : CX fb w p V U C m) (ho : C.Ok k) (he : Env fb w) :
    Calls Tryz.prog 23 #[.pointer (some ⟨p, 0, none⟩), .int .i64 rd] w (BoolPost w (C.heard rd)) := by
  have hf := h.fit ho
  have c7 : w.cell? ⟨p, 7, none⟩ = some (.int .i64 C.role) := h.bx.c 7
  have c10 : w.cell? ⟨p, 10, none⟩ = some (.int .i64 C.round) := h.bx.c 10
  have c11 : w.cell? ⟨p, 11, none⟩ = some (.int .i64 C.id) := h.bx.c 11
  have hhd : C.heard rd = (decide (C.role = 2) && decide (1 ≤ rd) && decide (rd ≤ C.round) && (cmay C.members && decide (C.members.length < 2 * (C.members.filter (C.heardOf rd)).length))) := rfl
  have H := Lib.hid (And.intro h (And.intro ho (And.intro he (And.intro hf hhd))))
  clear h ho he hf hhd
  by_cases hr : C.role = 2
  · have hr' : (C.role != 2) = false := by simp [hr]
    by_cases h1 : 1 ≤ rd
    · have h1' : decide (rd < 1) = false := decide_eq_false (by omega)
      by_cases h2 : rd ≤ C.round
      · have h2' : decide (C.round < rd) = false := decide_eq_false (by omega)
        obtain ⟨W1, hW1⟩ : ∃ W1, W1 = w.alloc (.cells #[.int .i64 C.id] 3) := ⟨_, rfl⟩
        have o1 : W1.ownsRow w.heap.size 3 1 (.slice (some ⟨w.heap.size, 0, none⟩) 1 1) 1 (ii [C.id]) := by subst hW1; exact own_lit1 rfl
        have hbW : Below w.heap.size w W1 := by subst hW1; exact (Below.refl _ _).alloc (Nat.le_refl _) _
        have hz1 : W1.heap.size = w.heap.size + 1 := by subst hW1; simp
        obtain ⟨D, hown, hd⟩ := (H.out.1.below hbW).pm
        have hsz := hd.size (hown.entries int_key)
        have hown' := (owns_tight hown).mono hsz
        have c16 : W1.cell? ⟨p, 16, none⟩ = some (.map (some m.q)) := (H.out.1.below hbW).bx.c 16
        have HW := Lib.hid hW1
        have O1 := Lib.hid (And.intro o1 (And.intro hbW (And.intro hz1 (And.intro hd hsz))))
        clear hW1 o1 hbW hz1 hd hsz hown
        go_enter Tryz.func23, Tryz.ntmps23
        go_upto_region 4 with (fail)
        rw [← HW.out]
        clear c7 c10 c11
        go_wp2_with (at_range; refine wpList_range_own _ rfl _ _ rfl _ _ int_key Tryz.underlying106 peR m.q 64 D rfl hown' ?_; intro w2 hrg0 hg0 hs0)
        go_frame
        clear hown' c16
        have hb2 : Below w.heap.size w w2 := (O1.out.2.1).grown hg0 (by have := O1.out.2.2.1; omega) (by intro b e; cases e)
        have o2 : w2.ownsRow w.heap.size 3 1 (.slice (some ⟨w.heap.size, 0, none⟩) 1 1) 1 (ii [C.id]) := own_below O1.out.1 ((Below.refl _ _).grown hg0 (Nat.le_refl _) (by intro b e; cases e))
        have R0 := Lib.hid (And.intro hrg0 (And.intro hb2 (And.intro o2 hs0)))
        clear hrg0 hb2 o2 hs0 hg0
        go_loopg [5, 6, 7] (Maps.size D) (fun gm s5 s6 s7 wr => ∃ (left : Lit → Bool) (zs : List Int) (A : Option Addr) (j c : Nat), s5 = .slice A j c ∧ wr.ranges Tryz.prog 3 peR m.q W1.heap.size 64 D left gm ∧ wr.ownsRow w.heap.size 3 1 (.slice A j c) j (ii zs) ∧ HInv C rd zs left ∧ Below w.heap.size w wr ∧ A.map (·.block) ≠ some W1.heap.size ∧ j + gm ≤ 65 ∧ W1.heap.size + 1 ≤ wr.heap.size)
        case atStart =>
          refine ⟨Maps.has D, [C.id], _, 1, 1, rfl, R0.out.1, R0.out.2.2.1, HInv.start O1.out.2.2.2.1, R0.out.2.1, ?_, ?_, ?_⟩
          · intro e; injection e with e; have := O1.out.2.2.1; have e2 : w.heap.size = W1.heap.size := e; omega
          · have := O1.out.2.2.2.2; omega
          · have := R0.out.2.2.2; omega
        case round =>
          obtain ⟨left, zs, A, j, c, rfl, hrg, hR⟩ := hrel
          have R := Lib.hid hR
          clear hR R0
          go_wp2_with (at_next; refine wpList_next_ranges _ rfl _ rfl _ int_key peR (Value.int .i64) peV (fun key kl hk => by obtain ⟨x, rfl, _⟩ := Maps.keyOf_int_inv Tryz.underlying3 hk; exact ⟨x, rfl⟩) (fun v y hv => by obtain ⟨q, rfl, _⟩ := peR_inv hv; exact ⟨q, rfl⟩) m.q W1.heap.size 64 D left _ rfl hrg ?_ ?_)
          · intro hc0 hl0
            have hdone := R.out.2.1.done hl0 C.members
            have hmk := Rd.of_own R.out.1
            have hj : j ≤ 65 := by have := R.out.2.2.2.2.1; omega
            have hmb := members_any (H.out.1.below R.out.2.2.1) H.out.2.2.2.1 H.out.2.1.may (H.out.2.2.1.new R.out.2.2.1).ev
            have hlen := (cmay_iff.1 (members_may H.out.2.1.may)).2.2.2
            have Hmb := Lib.hid hmb
            have A1 := Lib.hid (And.intro R.out.2.2.1 (And.intro hmk (And.intro hj (And.intro hlen hdone))))
            clear hrg hl0 hdone hmk hj hmb hlen R
            go_wp2_with fail
            refine Hmb.out.mono ?_
            intro e w3 h3
            obtain ⟨A3, n3, c3, rfl, o3, hb3⟩ := h3
            have hl3 : n3 ≤ 7 := by have := ii_len (Rd.of_own o3); have := A1.out.2.2.2.1; omega
            have hqu := quorum_any A3 n3 c3 C.members A j c zs w3 (Rd.of_own o3) (by omega) (A1.out.2.1.below hb3) (by have := A1.out.2.2.1; omega)
            rw [A1.out.2.2.2.2] at hqu
            have Hqu := Lib.hid hqu
            have B3 := Lib.hid (A1.out.1.trans (hb3.mono A1.out.1.size))
            clear hqu o3 hb3 hl3
            go_wp2_with fail
            refine Hqu.out.mono ?_
            rintro e w4 ⟨rfl, rfl⟩
            go_wp2_with fail
            go_ret
            rw [H.out.2.2.2.2, decide_eq_true hr, decide_eq_true h1, decide_eq_true h2]
            exact ⟨rfl, B3.out⟩
          · intro x q kl y y2 w3 cnt1 hkey hlx hR3 hat hrg3 hlt hg3 hs3 hen
            obtain ⟨x', ex, rfl, _⟩ := Maps.keyOf_int_inv Tryz.underlying3 hkey
            injection ex with _ ex
            subst ex
            simp only [peR_mk, Option.some.injEq, Prod.mk.injEq] at hR3
            obtain ⟨rfl, rfl⟩ := hR3
            have hq := O1.out.2.2.2.1.here hat
            have hk3 := (Kept.refl (· = W1.heap.size) wr).grown hg3 fun b e => by injection e with e; exact e.symm
            have o3 : w3.ownsRow w.heap.size 3 1 (.slice A j c) j (ii zs) := hk3.own R.out.1 fun b hb e => R.out.2.2.2.1 (e ▸ hb)
            have b3 : Below w.heap.size w w3 := R.out.2.2.1.grown hg3 R.out.2.2.1.size (by intro b e; injection e with e; have := O1.out.2.2.1; omega)
            have K3 := Lib.hid (And.intro o3 (And.intro b3 (And.intro hrg3 (And.intro hs3 (And.intro hq hlx)))))
            clear hq hk3 o3 b3 hrg3 hat hkey hg3 hrg hs3 hlx
            have hjl : j ≤ 65 := by have := R.out.2.2.2.2.1; omega
            have hz3 : w.heap.size ≤ w3.heap.size := K3.out.2.1.size
            have hr2 := R.out.2.2.2.2
            have hz5 : W1.heap.size + 1 ≤ w3.heap.size := by rw [K3.out.2.2.2.1]; exact hr2.2
            have Z5 := Lib.hid (And.intro hr2 hz5)
            clear hr2 hz5
            unfold peV at hen ⊢
            by_cases hc : rd ≤ q.rd
            · have hc' : decide (rd ≤ q.rd) = true := decide_eq_true hc
              go_wp2_with (at_builtin; refine wpList_append_any (news := [.int .i64 x]) _ Tryz.underlying25 int_elem rfl (by omega) rfl rfl rfl ((K3.out.1.alloc _).alloc _) rfl (show Rd _ _ 1 _ 1 [.int .i64 x] from Rd.blitg (cs := #[.int .i64 x]) rfl (by simp)) (by intro u hu; simp only [List.mem_cons, List.not_mem_nil, or_false] at hu; rcases hu with rfl; rfl) (by omega) (by simp; omega) rfl rfl ?_; intro A1 c1 w6 hown1 hg1 hat1)
              go_roundg cnt1
              case measure => exact hlt
              case rel =>
                have hr2 := Z5.out.1
                have hz5 := Z5.out.2
                refine ⟨_, zs ++ [x], A1, j + 1, c1, rfl, ?_, ?_, R.out.2.1.stepY K3.out.2.2.2.2.2 K3.out.2.2.2.2.1 hc, ?_, ?_, by omega, ?_⟩
                · refine ((K3.out.2.2.1.alloc _).alloc _).kept hg1 ?_ ?_
                  · intro e
                    have := (own_lt R.out.1 m.q e.symm).1
                    have := H.out.1.pm.lt
                    omega
                  · exact fun e => R.out.2.2.2.1 e.symm
                · have e1 : ii (zs ++ [x]) = ii zs ++ [.int .i64 x] := by simp [ii]
                  rw [e1]
                  exact hown1
                · refine (((K3.out.2.1.alloc hz3 _).alloc (by simp; omega) _)).grown hg1 (by simp; omega) ?_
                  intro b e
                  exact (own_lt R.out.1 b e).1
                · rcases hat1 with e | e
                  · rw [e]; exact R.out.2.2.2.1
                  · rw [e]
                    intro e2
                    injection e2 with e2
                    simp at e2
                    omega
                · have := hg1.size
                  simp at this
                  omega
            · have hc' : decide (rd ≤ q.rd) = false := decide_eq_false hc
              go_wp2_with fail
              go_roundg cnt1
              case measure => exact hlt
              case rel =>
                have hr2 := Z5.out.1
                have hz5 := Z5.out.2
                refine ⟨_, zs, A, j, c, rfl, K3.out.2.2.1.alloc _, K3.out.1.alloc _, R.out.2.1.stepN K3.out.2.2.2.2.2 K3.out.2.2.2.2.1 (by omega), K3.out.2.1.alloc hz3 _, R.out.2.2.2.1, by omega, by simp; omega⟩
      · have h2' : decide (C.round < rd) = true := decide_eq_true (by omega)
        go_enter Tryz.func23, Tryz.ntmps23
        go_wp2_with fail
        go_ret
        rw [H.out.2.2.2.2, decide_eq_false (show ¬ rd ≤ C.round by omega)]
        simp only [Bool.and_false, Bool.false_and]
        exact ⟨rfl, Below.refl _ _⟩
    · have h1' : decide (rd < 1) = true := decide_eq_true (by omega)
      go_enter Tryz.func23, Tryz.ntmps23
      go_wp2_with fail
      go_ret
      rw [H.out.2.2.2.2, decide_eq_false (show ¬ 1 ≤ rd by omega)]
      simp only [Bool.and_false, Bool.false_and]
      exact ⟨rfl, Below.refl _ _⟩
  · have hr' : (C.role != 2) = true := by simp [hr]
    go_enter Tryz.func23, Tryz.ntmps23
    go_wp2_with fail
    go_ret
    rw [H.out.2.2.2.2, decide_eq_false hr]
    simp only [Bool.false_and]
    exact ⟨rfl, Below.refl _ _⟩
end Go.Proofs.YtmhaahcbmdhinaaGreatDoor
namespace Go.Proofs.YtmhaahcbmdhinaaGreatDoor
open Go.RowKit
set_option maxRecDepth 100000
set_option linter.unusedVariables false
set_option linter.unusedSimpArgs false
def zE : En := ⟨0, 0, 0, []⟩
/-- The entry of an index, or the error's number. -/
def atL (b t : Int) (l : List En) (ix : Int) : Int × En := if lmay b t l = false then (1, zE) else if lstA b l < ix ∨ ix < 1 then (8, zE) else if ix ≤ b then (22, zE) else (0, (l[(ix - b - 1).toNat]?).getD zE)
def AtPost (W : World) (er : Int → Value) (r : Int × En) (e : Ending) (w' : World) : Prop :=
  ∃ x : Er, e = .returned (.tuple #[ecA x, er r.1]) ∧ en x = r.2 ∧ Rd w' T 1 x.A x.n (bs x.d) ∧ x.n ≤ 1000000 ∧ Below W.heap.size W w'
def z0 : Er := ⟨0, 0, 0, none, 0, 0, []⟩
theorem ecA_z0 : ecA z0 = .agg #[.int .i64 0, .int .i64 0, .int .i64 0, .slice none 0 0] := rfl
set_option maxHeartbeats 1600000 in
theorem at_any (b t ix : Int) (A : Option Addr) (n c : Nat) (L : List Er) (w : World) (hr : Rd w T 4 A n (flat ecell L)) (hd : Dat w L) (hs : ∀ x ∈ L, x.n ≤ 1000000) (hw : Wel L) (hn : n ≤ 1000000) :
    Calls Tryz.prog 20 #[.agg #[.int .i64 b, .int .i64 t, .slice A n c], .int .i64 ix] w (AtPost w errC (atL b t (L.map en) ix)) := by
  have hr' := hr.lt (by omega)
  have hll := hr.flen ecell_len (by omega)
  obtain ⟨W0, hW0⟩ : ∃ W0, W0 = (w.alloc (.cells #[.int .i64 b, .int .i64 t, .slice A n c] 38)).alloc (.cells #[.int .i64 0, .int .i64 0, .int .i64 0, .slice none 0 0] 62) := ⟨_, rfl⟩
  have b0 : Bx W0 w.heap.size #[.int .i64 b, .int .i64 t, .slice A n c] := by subst hW0; exact (Bx.new _ _ _ rfl).alloc _
  have F0 : Fr W0 (w.heap.size + 1) 4 W0 := by subst hW0; exact Fr.new (by simp) rfl
  have r0 : Rd W0 (· < w.heap.size) 4 A n (flat ecell L) := by subst hW0; exact ((hr'.mono fun b hb => hb.2).alloc _).alloc _
  have hbe : Below w.heap.size w W0 := by subst hW0; exact ((Below.refl _ _).alloc (Nat.le_refl _) _).alloc (by simp) _
  have d0 : ∀ x ∈ L, Rd W0 (· < w.heap.size) 1 x.A x.n (bs x.d) := fun x hx => (((hd x hx).1.lt (by omega)).mono fun b hb => hb.2).below hbe
  have hz : W0.heap.size = w.heap.size + 2 := by subst hW0; simp
  have u0 : W0.cell? ⟨w.heap.size, 0, none⟩ = some (.int .i64 b) := b0.c 0
  have u1 : W0.cell? ⟨w.heap.size, 1, none⟩ = some (.int .i64 t) := b0.c 1
  have u2 : W0.cell? ⟨w.heap.size, 2, none⟩ = some (.slice A n c) := b0.c 2
  have hlt := last_any b t A n c L W0 r0 hn
  have hmm := fun W (h : Fr W0 (w.heap.size + 1) 4 W) => may_any b t A n c L W (h.rd r0 (by omega)) hw (by omega)
  obtain ⟨q, hq⟩ : ∃ q, lmay b t (L.map en) = q := ⟨_, rfl⟩
  obtain ⟨R, hR⟩ : ∃ R, atL b t (L.map en) ix = R := ⟨_, rfl⟩
  rw [hR]
  unfold atL at hR
  have hlast : q = true → lstA b (L.map en) = b + n ∧ -1 < b ∧ b ≤ 1099511627776 := fun h => by
    have h1 := lmay_last (hq.trans h)
    rw [List.length_map, hll] at h1
    have := (lmay_iff.1 (hq.trans h)).1
    exact ⟨h1, by omega, by omega⟩
  rw [hq] at hmm hR
  generalize lstA b (L.map en) = z at hlt hR hlast
  generalize lstB t (L.map en) = y at hlt
  have Hlt := Lib.hid hlt
  have Hmm := Lib.hid hmm
  have HW := Lib.hid hW0
  have U := Lib.hid (And.intro u0 (And.intro u1 u2))
  have HR := Lib.hid hR
  have R0 := Lib.hid r0
  have D0 := Lib.hid d0
  have Hs := Lib.hid hs
  have Hlast := Lib.hid hlast
  have Hz := Lib.hid hz
  clear hW0 b0 u0 u1 u2 hr hr' r0 d0 hlt hmm hw hq hR hll hs hd hlast hz
  go_enter Tryz.func20, Tryz.ntmps20
  go_wp2_with fail
  rw [← HW.out]
  obtain ⟨u0, u1, u2⟩ := U.out
  go_wp2_with fail
  refine Hlt.out.mono ?_
  rintro e w1 ⟨rfl, hb1⟩
  have F1 := F0.below hb1
  have j0 : w1.cell? ⟨w.heap.size, 0, none⟩ = some (.int .i64 b) := F1.cell (by omega) U.out.1
  have j1 : w1.cell? ⟨w.heap.size, 1, none⟩ = some (.int .i64 t) := F1.cell (by omega) U.out.2.1
  have j2 : w1.cell? ⟨w.heap.size, 2, none⟩ = some (.slice A n c) := F1.cell (by omega) U.out.2.2
  clear u0 u1 u2 hb1
  go_wp2_with fail
  refine (Hmm.out _ F1).mono ?_
  rintro e w2 ⟨rfl, hb2⟩
  have F2 := F1.below hb2
  clear j0 j1 j2 hb2
  have j0 : w2.cell? ⟨w.heap.size, 0, none⟩ = some (.int .i64 b) := F2.cell (by omega) U.out.1
  have j1 : w2.cell? ⟨w.heap.size, 1, none⟩ = some (.int .i64 t) := F2.cell (by omega) U.out.2.1
  have j2 : w2.cell? ⟨w.heap.size, 2, none⟩ = some (.slice A n c) := F2.cell (by omega) U.out.2.2
  have q0 : w2.cell? ⟨w.heap.size + 1, 0, none⟩ = some (peek w2 (w.heap.size + 1) 0) := F2.pk (by omega)
  have q1 : w2.cell? ⟨w.heap.size + 1, 1, none⟩ = some (peek w2 (w.heap.size + 1) 1) := F2.pk (by omega)
  have q2 : w2.cell? ⟨w.heap.size + 1, 2, none⟩ = some (peek w2 (w.heap.size + 1) 2) := F2.pk (by omega)
  have q3 : w2.cell? ⟨w.heap.size + 1, 3, none⟩ = some (peek w2 (w.heap.size + 1) 3) := F2.pk (by omega)
  have g0 : w2.frozen? ⟨w.heap.size + 1, 0, none⟩ = false := F2.fz _
  have g1 : w2.frozen? ⟨w.heap.size + 1, 1, none⟩ = false := F2.fz _
  have g2 : w2.frozen? ⟨w.heap.size + 1, 2, none⟩ = false := F2.fz _
  have g3 : w2.frozen? ⟨w.heap.size + 1, 3, none⟩ = false := F2.fz _
  have F2' := Lib.hid F2
  have FZ := Lib.hid (hbe.trans ((Fr.set (Fr.set (Fr.set (Fr.set F2 0 (.int .i64 0)) 1 (.int .i64 0)) 2 (.int .i64 0)) 3 (.slice none 0 0)).to_below (B := w.heap.size) (by omega)))
  cases q
  · go_wp2_with fail
    refine bodyPost_ret (by simp [results, Tryz.results20, go_sem, q0, q1, q2, q3]; rfl) rfl ?_
    have := HR.out
    rw [if_pos (by trivial)] at this
    subst this
    exact ⟨z0, rfl, rfl, Rd.none_, by simp [z0], FZ.out⟩
  obtain ⟨hz1, hz2, hz3⟩ := Hlast.out (by trivial)
  replace HR := Lib.hid (show _ from (if_neg (by decide : ¬ (true = false))).symm.trans HR.out)
  subst hz1
  by_cases h1 : b + (n : Int) < ix
  · go_wp2_with fail
    refine bodyPost_ret (by simp [results, Tryz.results20, go_sem, q0, q1, q2, q3]; rfl) rfl ?_
    have := HR.out
    rw [if_pos (.inl h1)] at this
    subst this
    exact ⟨z0, rfl, rfl, Rd.none_, by simp [z0], FZ.out⟩
  have h1d : decide (b + (n : Int) < ix) = false := decide_eq_false h1
  by_cases h2 : ix < 1
  · go_wp2_with fail
    refine bodyPost_ret (by simp [results, Tryz.results20, go_sem, q0, q1, q2, q3]; rfl) rfl ?_
    have := HR.out
    rw [if_pos (.inr h2)] at this
    subst this
    exact ⟨z0, rfl, rfl, Rd.none_, by simp [z0], FZ.out⟩
  have h2d : decide (ix < 1) = false := decide_eq_false h2
  replace HR := Lib.hid (show _ from (if_neg (by omega : ¬ (b + (n : Int) < ix ∨ ix < 1))).symm.trans HR.out)
  by_cases h3 : ix ≤ b
  · go_wp2_with fail
    refine bodyPost_ret (by simp [results, Tryz.results20, go_sem, q0, q1, q2, q3]; rfl) rfl ?_
    have := HR.out
    rw [if_pos h3] at this
    subst this
    exact ⟨z0, rfl, rfl, Rd.none_, by simp [z0], FZ.out⟩
  have h3d : decide (ix ≤ b) = false := decide_eq_false h3
  replace HR := Lib.hid (show _ from (if_neg h3).symm.trans HR.out)
  obtain ⟨m, hm1⟩ : ∃ m : Nat, ix - b - 1 = (m : Int) := ⟨(ix - b - 1).toNat, by omega⟩
  have hmn : m < n := by omega
  have w1' : IntKind.i64.wrap (ix - b) = ix - b := by rw [IntKind.wrap_i64]; omega
  have w2' : IntKind.i64.wrap (ix - b - 1) = (m : Int) := by rw [IntKind.wrap_i64]; omega
  obtain ⟨bk, o, x, rfl, hbk, hbl, hx, c0, c1, c2, c3⟩ := er_cells (F2.rd R0.out (by omega)) hmn
  have hRR : R = (0, en x) := by
    have := HR.out
    rw [show (ix - b - 1).toNat = m by omega, List.getElem?_map, hx] at this
    exact this.symm
  have hmI : (m : Int) < n := by omega
  have hm0 : (0 : Int) ≤ m := by omega
  have hxm := List.mem_of_getElem? hx
  have how := own1_any x w2 ((F2.rd (D0.out x hxm) (by omega)).any) (Hs.out x hxm)
  have How := Lib.hid how
  have HRR := Lib.hid hRR
  have Hxn := Lib.hid (Hs.out x hxm)
  clear hx hm1 hRR hxm how F2
  go_wp2_with fail
  refine How.out.mono ?_
  rintro e w4 ⟨A4, m4, rfl, r4, nm4, mm4, hb4⟩
  have F4 := F2'.out.below hb4
  clear q0 q1 q2 q3 g0 g1 g2 g3 j0 j1 j2 c0 c1 c2 c3
  have q0 : w4.cell? ⟨w.heap.size + 1, 0, none⟩ = some (peek w4 (w.heap.size + 1) 0) := F4.pk (by omega)
  have q1 : w4.cell? ⟨w.heap.size + 1, 1, none⟩ = some (peek w4 (w.heap.size + 1) 1) := F4.pk (by omega)
  have q2 : w4.cell? ⟨w.heap.size + 1, 2, none⟩ = some (peek w4 (w.heap.size + 1) 2) := F4.pk (by omega)
  have q3 : w4.cell? ⟨w.heap.size + 1, 3, none⟩ = some (peek w4 (w.heap.size + 1) 3) := F4.pk (by omega)
  have g0 : w4.frozen? ⟨w.heap.size + 1, 0, none⟩ = false := F4.fz _
  have g1 : w4.frozen? ⟨w.heap.size + 1, 1, none⟩ = false := F4.fz _
  have g2 : w4.frozen? ⟨w.heap.size + 1, 2, none⟩ = false := F4.fz _
  have g3 : w4.frozen? ⟨w.heap.size + 1, 3, none⟩ = false := F4.fz _
  have R4 := Lib.hid r4
  have F4' := Lib.hid F4
  have hg4 := F2'.out.gr.size
  have hle := Hz.out
  clear r4 hb4 F4
  go_wp2_with fail
  refine bodyPost_ret (by simp [results, Tryz.results20, go_sem, q0, q1, q2, q3]; rfl) rfl ?_
  have hne : ¬ w2.heap.size ≤ w.heap.size + 1 := by omega
  have hF := Fr.set (Fr.set (Fr.set (Fr.set F4'.out 0 (.int .i64 x.a)) 1 (.int .i64 x.b)) 2 (.int .i64 x.c)) 3 (.slice A4 x.n m4)
  refine ⟨⟨x.a, x.b, x.c, A4, x.n, m4, x.d⟩, by rw [HRR.out]; rfl, by rw [HRR.out]; rfl, ?_, Hxn.out, hbe.trans (hF.to_below (B := w.heap.size) (by omega))⟩
  exact ((((R4.out.setCell (p := ⟨w.heap.size + 1, 0, none⟩) hne _).setCell (p := ⟨w.heap.size + 1, 1, none⟩) hne _).setCell (p := ⟨w.heap.size + 1, 2, none⟩) hne _).setCell (p := ⟨w.heap.size + 1, 3, none⟩) hne _).any
end Go.Proofs.YtmhaahcbmdhinaaGreatDoor
