/- Walk: (*raft.Core).advance. (Printed by mkc12.py.)
   Two rows of messages, one behind the other; what is told behind an entry of one's own.
   Walk: entry.Add, also where it refuses.
   A member in memory: another log, another map; the member that begins to lead.
   Walk: (*raft.Core).lead. (Printed by mkc13.py.) -/
import Derived.Test.YtmhaahcbmdhinaaGreatDoorKW21
import Derived.Test.YtmhaahcbmdhinaaGreatDoorKW12
import Derived.Test.YtmhaahcbmdhinaaGreatDoorKW18
namespace Go.Proofs.YtmhaahcbmdhinaaGreatDoor
open Go.RowKit
set_option maxRecDepth 100000
set_option linter.unusedVariables false
set_option linter.unusedSimpArgs false
theorem own_lit1 {W : World} {e : TypeId} {cs : Array Value} {k : Nat} (hk : cs.size = k) : (W.alloc (.cells cs e)).ownsRow W.heap.size e k (.slice (some ⟨W.heap.size, 0, none⟩) 1 1) 1 cs.toList :=
  ⟨by simpa using hk, .inr ⟨W.heap.size, 1, cs, rfl, Nat.le_refl _, heap_alloc_new W _, Nat.le_refl _, by simp [maxLen], by omega, by rw [Nat.one_mul, ← hk, ← Array.length_toList, List.take_length]⟩⟩
theorem Rd.blitg {w : World} {cs : Array Value} {t : TypeId} {fr : Nat × Nat} {k g : Nat} (hk : cs.size = k) (hg : g = w.heap.size) : Rd (w.alloc (.cells cs t fr)) T k (some ⟨g, 0, none⟩) 1 cs.toList := by
  subst hg
  exact (Rd.blit1 hk).any
theorem reach_snoc (l : List Mk) (x : Mk) (who : Int) : Go.Proofs.YtmhaahcbmdhinaaGreatDoor.reach (l ++ [x]) who = if x.m = who then max (Go.Proofs.YtmhaahcbmdhinaaGreatDoor.reach l who) x.n else Go.Proofs.YtmhaahcbmdhinaaGreatDoor.reach l who := by
  simp [Go.Proofs.YtmhaahcbmdhinaaGreatDoor.reach, List.foldl_append]
theorem agreed_agr {l : List Int} {ms : List Mk} {f : Int → Int} (h : ∀ who, Go.Proofs.YtmhaahcbmdhinaaGreatDoor.reach ms who = f who) : agreed l ms = agr l f := by
  have e : Go.Proofs.YtmhaahcbmdhinaaGreatDoor.reach ms = f := funext h
  unfold agreed agr srt reaches
  rw [e]
theorem sameKey_i (a b : Int) : (Lit.int .i64 a).sameKey (.int .i64 b) = decide (a = b) := by simp [Lit.sameKey]
/-- What the marks tell so far. -/
def MkInv (C : Cr) (ms : List Mk) (left : Lit → Bool) : Prop := ∀ who, Go.Proofs.YtmhaahcbmdhinaaGreatDoor.reach ms who = max (if who = C.id then max 0 C.last else 0) (if left (.int .i64 who) = true then 0 else max 0 ((C.peers who).elim 0 Pe.mt))
theorem MkInv.start {C : Cr} {D : DataW Unit} (hd : PmD D C.peers) : MkInv C [⟨C.id, C.last⟩] (Maps.has D) := fun who => by
  rw [hd.has_]
  have e1 : Go.Proofs.YtmhaahcbmdhinaaGreatDoor.reach [⟨C.id, C.last⟩] who = if C.id = who then max 0 C.last else 0 := rfl
  rw [e1]
  have e2 : (if (C.peers who).isSome = true then (0 : Int) else max 0 ((C.peers who).elim 0 Pe.mt)) = 0 := by
    cases C.peers who <;> simp
  rw [e2]
  by_cases e : who = C.id
  · rw [if_pos e.symm, if_pos e]; omega
  · rw [if_neg (fun h => e h.symm), if_neg e]; omega
theorem MkInv.step {C : Cr} {ms : List Mk} {left : Lit → Bool} {x : Int} {c : Pe} (h : MkInv C ms left) (hl : left (.int .i64 x) = true) (hp : C.peers x = some c) : MkInv C (ms ++ [⟨x, c.mt⟩]) (fun z => left z && !z.sameKey (.int .i64 x)) := fun who => by
  have := h who
  rw [reach_snoc]
  show _ = max _ (if (left (.int .i64 who) && !(Lit.int .i64 who).sameKey (.int .i64 x)) = true then 0 else max 0 ((C.peers who).elim 0 Pe.mt))
  rw [sameKey_i]
  by_cases e : x = who
  · subst e
    rw [hl, if_pos rfl] at this
    simp only [if_true, this, hp, Option.elim_some, decide_true, Bool.not_true, Bool.and_false, Bool.false_eq_true, if_false]
    omega
  · have e1 : decide (who = x) = false := decide_eq_false fun h => e h.symm
    rw [if_neg e, this, e1]
    simp
theorem MkInv.done {C : Cr} {ms : List Mk} {left : Lit → Bool} (h : MkInv C ms left) (hl : ∀ kl, left kl = false) (who : Int) : Go.Proofs.YtmhaahcbmdhinaaGreatDoor.reach ms who = C.reach who := by
  rw [h who, hl]
  rfl
theorem PmD.here {D : DataW Unit} {f : Int → Option Pe} (hd : PmD D f) {x : Int} {c : Pe} (h : ∀ zd, D.atKey (.int .i64 x) zd = peD c) : f x = some c := by
  have k1 := h (.lit (.int .i64 0))
  rw [hd.at_] at k1
  cases hf : f x with
  | none => rw [hf] at k1; cases k1
  | some q => rw [hf] at k1; rw [peD_inj k1]
theorem CX.withCommit {fb p : Nat} {w : World} {V U : Nat → Prop} {C : Cr} {m : Mb} (h : CX fb w p V U C m) (n : Int) : CTo fb w p V U { C with commit := n } (w.setCell ⟨p, 9, none⟩ (.int .i64 n)) V U m := by
  have hg : w.grownBy (w.setCell ⟨p, 9, none⟩ (.int .i64 n)) (some p) := gb_set _ p 9 _
  exact ⟨h.to (h.bx.set 9 _) hg rfl rfl rfl rfl, fun _ h => .inl h, fun _ h => h, fun _ h => .inl h, (Kept.refl V w).grown hg fun b e => by injection e with e; exact e ▸ h.vp⟩
theorem outNil {fb p : Nat} {W w' : World} {V U V' U' : Nat → Prop} {C : Cr} {m' : Mb} (h : CTo fb W p V U C w' V' U' m') : OutPost fb W p V U (C, []) (.returned (.slice none 0 0)) w' :=
  ⟨none, 0, 0, [], V', U', m', rfl, Rm.nil _ _, rfl, (fun x hx => by cases hx), h⟩
theorem OutPost.up {fb p : Nat} {w W w' : World} {V U V' U' : Nat → Prop} {C : Cr} {m' : Mb} {r : Cr × List Ms} {e : Ending} (h : CTo fb w p V U C W V' U' m') (h2 : OutPost fb W p V' U' r e w') : OutPost fb w p V U r e w' := by
  obtain ⟨A, n, c, X, V2, U2, m2, h1, h3, h4, h6, h5⟩ := h2
  exact ⟨A, n, c, X, V2, U2, m2, h1, h3.mono h.kept.size, h4, h6, h.trans h5⟩
set_option maxHeartbeats 12800000 in
theorem advance_any {fb p : Nat} {w : World} {V U : Nat → Prop} {C : Cr} {m : Mb} {k : Nat} (h : CX fb w p V U C m) (ho : C.Ok k) (he : Env fb w) :
    Calls Tryz.prog 56 #[.pointer (some ⟨p, 0, none⟩)] w (OutPost fb w p V U C.advance) := by
  have hf := h.fit ho
  have hlast := clast_any h.drew hf ho.may
  have F : ∀ W, Below w.heap.size w W → W.cell? ⟨p, 11, none⟩ = some (.int .i64 C.id) ∧ W.cell? ⟨p, 16, none⟩ = some (.map (some m.q)) := fun W hb => ⟨(h.below hb).bx.c 11, (h.below hb).bx.c 16⟩
  have FF := Lib.hid F
  have Hlast := Lib.hid hlast
  have H := Lib.hid (And.intro h (And.intro ho (And.intro he hf)))
  clear h ho he hf hlast F
  go_enter Tryz.func56, Tryz.ntmps56
  go_upto_region 1 with (fail)
  refine wp_region_S 8 (fun W => Below w.heap.size w W) (.take 0 (.take 1 (.take 2 (.take 3 (.take 4 (.one 5 (.take 6 (.one 7 (.one 8 (.nil)))))))))) (by kernel_rfl) (Below.refl _ _).drew (fun _ _ _ _ h => h) (fun hS => ?_)
  repeat (first
    | (refine wpS_take (v := ?_) rfl rfl (by rfl) ?_ ?_; rotate_left; (intro W hW; have hf := FF.out W hW; go_split_ands; go_simp; try with_reducible rfl); try simp only [Act.put, List.setIfInBounds_toArray, List.set_cons_zero, List.set_cons_succ])
    | (refine wpS_skip rfl rfl (by rfl) ?_; try simp only [Act.put, List.setIfInBounds_toArray, List.set_cons_zero, List.set_cons_succ]))
  refine wpS_one rfl (by rfl) (fun K hK => ?_)
  go_simp
  go_at_call 55
  refine (Hlast.out).mono ?_
  rintro e w1 ⟨rfl, hb1⟩
  have hb1' : Below w.heap.size w w1 := (Below.refl _ _).drew.trans hb1
  clear hb1
  refine hK (fun W => Below w.heap.size w W) _ _ (fun _ h => h) hb1' ?_
  clear hK K
  try simp only [Act.put, List.setIfInBounds_toArray, List.set_cons_zero, List.set_cons_succ]
  repeat (first
    | (refine wpS_take (v := ?_) rfl rfl (by rfl) ?_ ?_; rotate_left; (intro W hW; have hf := FF.out W hW; go_split_ands; go_simp; try with_reducible rfl); try simp only [Act.put, List.setIfInBounds_toArray, List.set_cons_zero, List.set_cons_succ])
    | (refine wpS_skip rfl rfl (by rfl) ?_; try simp only [Act.put, List.setIfInBounds_toArray, List.set_cons_zero, List.set_cons_succ]))
  refine wpS_one rfl (by rfl) (fun K hK => ?_)
  go_simp
  refine hK (fun W => Below w.heap.size w W) _ _ (fun _ h => h) (hb1'.alloc hb1'.size _) ?_
  clear hK K
  try simp only [Act.put, List.setIfInBounds_toArray, List.set_cons_zero, List.set_cons_succ]
  refine wpS_last rfl (by rfl) (fun K hK => ?_)
  go_simp
  refine hK _ _ ?_
  clear hK K
  try simp only [Act.put, List.setIfInBounds_toArray, List.set_cons_zero, List.set_cons_succ]
  refine wpS_nil ?_
  clear hS
  obtain ⟨W1, hW1⟩ : ∃ W1, W1 = w1.alloc (.cells #[.int .i64 C.id, .int .i64 C.last] 190) := ⟨_, rfl⟩
  have o1 : W1.ownsRow w1.heap.size 190 2 (.slice (some ⟨w1.heap.size, 0, none⟩) 1 1) 1 (flat mkc [⟨C.id, C.last⟩]) := by subst hW1; exact own_lit1 rfl
  have hbW : Below w1.heap.size w1 W1 := by subst hW1; exact (Below.refl _ _).alloc (Nat.le_refl _) _
  have hz1 : W1.heap.size = w1.heap.size + 1 := by subst hW1; simp
  have hbw : Below w.heap.size w W1 := hb1'.trans (hbW.mono hb1'.size)
  rw [← hW1]
  obtain ⟨D, hown, hd⟩ := (H.out.1.below hbw).pm
  have hsz := hd.size (hown.entries int_key)
  have hown' := (owns_tight hown).mono hsz
  have c16 := (FF.out W1 hbw).2
  have O1 := Lib.hid (And.intro o1 (And.intro hbW (And.intro hz1 (And.intro hb1' (And.intro hbw (And.intro hd hsz))))))
  clear hW1 o1 hbW hz1 hb1' hbw hd hsz hown
  go_wp2_with (at_range; refine wpList_range_own _ rfl _ _ rfl _ _ int_key Tryz.underlying106 peR m.q 64 D rfl hown' ?_; intro w2 hrg0 hg0 hs0)
  go_frame
  clear hown' c16
  have hb2 : Below w1.heap.size w1 w2 := (O1.out.2.1).grown hg0 (by have := O1.out.2.2.1; omega) (by intro b e; cases e)
  have o2 : w2.ownsRow w1.heap.size 190 2 (.slice (some ⟨w1.heap.size, 0, none⟩) 1 1) 1 (flat mkc [⟨C.id, C.last⟩]) := own_below O1.out.1 ((Below.refl _ _).grown hg0 (Nat.le_refl _) (by intro b e; cases e))
  have R0 := Lib.hid (And.intro hrg0 (And.intro hb2 (And.intro o2 hs0)))
  clear hrg0 hb2 o2 hs0 hg0
  go_loopg [3, 4, 5] (Maps.size D) (fun gm s3 s4 s5 wr => ∃ (left : Lit → Bool) (ms : List Mk) (A : Option Addr) (j c : Nat), s3 = .slice A j c ∧ wr.ranges Tryz.prog 3 peR m.q W1.heap.size 64 D left gm ∧ wr.ownsRow w1.heap.size 190 2 (.slice A j c) j (flat mkc ms) ∧ MkInv C ms left ∧ Below w1.heap.size w1 wr ∧ A.map (·.block) ≠ some W1.heap.size ∧ j + gm ≤ 65 ∧ W1.heap.size + 1 ≤ wr.heap.size)
  case atStart =>
    refine ⟨Maps.has D, [⟨C.id, C.last⟩], _, 1, 1, rfl, R0.out.1, R0.out.2.2.1, MkInv.start O1.out.2.2.2.2.2.1, R0.out.2.1, ?_, ?_, ?_⟩
    · intro e; injection e with e; have := O1.out.2.2.1; have e2 : w1.heap.size = W1.heap.size := e; omega
    · have := O1.out.2.2.2.2.2.2; omega
    · have := R0.out.2.2.2; omega
  case round =>
    obtain ⟨left, ms, A, j, c, rfl, hrg, hR⟩ := hrel
    have R := Lib.hid hR
    clear hR R0
    go_wp2_with (at_next; refine wpList_next_ranges _ rfl _ rfl _ int_key peR (Value.int .i64) peV (fun key kl hk => by obtain ⟨x, rfl, _⟩ := Maps.keyOf_int_inv Tryz.underlying3 hk; exact ⟨x, rfl⟩) (fun v y hv => by obtain ⟨q, rfl, _⟩ := peR_inv hv; exact ⟨q, rfl⟩) m.q W1.heap.size 64 D left _ rfl hrg ?_ ?_)
    · intro hc0 hl0
      have hbwr : Below w.heap.size w wr := O1.out.2.2.2.1.trans (R.out.2.2.1.mono O1.out.2.2.2.1.size)
      have hdone := R.out.2.1.done hl0
      have hmk := Rd.of_own R.out.1
      have hj : j ≤ 65 := by have := R.out.2.2.2.2.1; omega
      have hmb := members_any (H.out.1.below hbwr) H.out.2.2.2 H.out.2.1.may (H.out.2.2.1.new hbwr).ev
      have hlen := (cmay_iff.1 (members_may H.out.2.1.may)).2.2.2
      have hag : agreed C.members ms = agr C.members C.reach := agreed_agr hdone
      obtain ⟨n, hn⟩ : ∃ n, agr C.members C.reach = n := ⟨_, rfl⟩
      rw [hn] at hag
      have hadv : C.advance = if n ≤ C.commit ∨ C.termOf n ≠ (0, C.s.tm) then (C, []) else if hasC C.members C.id = false ∧ (memE C.s.l C.last).all (fun e => decide (e.a ≤ n)) = true then (({ C with commit := n } : Cr).follow 0, []) else Cr.sendAll { C with commit := n } := by
        rw [← hn]; rfl
      have hnr : 0 ≤ n ∧ n ≤ 1099511627776 := by rw [← hn]; exact H.out.2.1.agr _
      have Hmb := Lib.hid hmb
      have A1 := Lib.hid (And.intro hbwr (And.intro hmk (And.intro hj (And.intro hlen (And.intro hag (And.intro hadv hnr))))))
      clear hrg hl0 hbwr hdone hmk hj hmb hlen hag hadv hnr hn R
      go_wp2_with fail
      refine Hmb.out.mono ?_
      intro e w3 h3
      obtain ⟨A3, n3, c3, rfl, o3, hb3⟩ := h3
      have hl3 : n3 ≤ 7 := by have := ii_len (Rd.of_own o3); have := A1.out.2.2.2.1; omega
      have hagr := agreed_any A3 n3 c3 C.members A j c ms w3 (Rd.of_own o3) (by omega) (A1.out.2.1.below hb3) (by have := A1.out.2.2.1; omega)
      rw [A1.out.2.2.2.2.1] at hagr
      have Hagr := Lib.hid hagr
      have O3 := Lib.hid (And.intro o3 (And.intro hb3 hl3))
      clear hagr o3 hb3 hl3
      go_wp2_with fail
      refine Hagr.out.mono ?_
      rintro e w4 ⟨rfl, hb4⟩
      have hb4w : Below w.heap.size w w4 := (A1.out.1.trans (O3.out.2.1.mono A1.out.1.size)).trans (hb4.mono (Nat.le_trans A1.out.1.size O3.out.2.1.size))
      have htm := H.out.1.term H.out.2.2.2 n w4 hb4w
      have hcx4 := H.out.1.below hb4w
      have c2 : w4.cell? ⟨p, 2, none⟩ = some (.int .i64 m.s.b) := hcx4.bx.c 2
      have c3' : w4.cell? ⟨p, 3, none⟩ = some (.int .i64 m.s.t) := hcx4.bx.c 3
      have c4 : w4.cell? ⟨p, 4, none⟩ = some (.slice m.s.A m.s.n m.s.c) := hcx4.bx.c 4
      have hadv := A1.out.2.2.2.2.2.1
      obtain ⟨r, hr⟩ : ∃ r, C.termOf n = r := ⟨_, rfl⟩
      rw [hr] at htm hadv
      have Htm := Lib.hid htm
      have B4 := Lib.hid (And.intro hb4 (And.intro hb4w hadv))
      clear htm hcx4 hadv hb4 hb4w hr
      obtain ⟨r1, r2⟩ := r
      go_wp2_with fail
      refine Htm.out.mono ?_
      rintro e w5 ⟨rfl, hb5⟩
      have hb5w : Below w.heap.size w w5 := B4.out.2.1.trans (hb5.mono B4.out.2.1.size)
      have hcx5 := H.out.1.below hb5w
      clear c2 c3' c4
      have c9 : w5.cell? ⟨p, 9, none⟩ = some (.int .i64 C.commit) := hcx5.bx.c 9
      have c0 : w5.cell? ⟨p, 0, none⟩ = some (.int .i64 C.s.tm) := by rw [← H.out.1.s_eq.1]; exact hcx5.bx.c 0
      have f9 := hcx5.bx.f 9
      have o5 : Rd w5 (wr.heap.size ≤ ·) 1 A3 n3 (ii C.members) := ((Rd.of_own O3.out.1).below B4.out.1).below hb5
      have B5 := Lib.hid (And.intro hb5w (And.intro hcx5 o5))
      clear hb5 hb5w hcx5 o5
      have hto5 : CTo fb w p V U C w5 V U m := (CTo.refl H.out.1).below B5.out.1
      have T5 := Lib.hid hto5
      clear hto5
      by_cases hcm : n ≤ C.commit
      · go_wp2_with fail
        go_ret
        rw [B4.out.2.2, if_pos (.inl hcm)]
        exact outNil T5.out
      · have hcm' : decide (n ≤ C.commit) = false := decide_eq_false hcm
        by_cases h0 : r1 = 0
        · subst h0
          by_cases e : r2 = C.s.tm
          · have e1 : (r2 != C.s.tm) = false := by simp [e]
            have e2 : errC 0 = .nilIface := rfl
            go_upto_region 12 with (fail)
            obtain ⟨W6, hW6⟩ : ∃ W6, W6 = w5.setCell ⟨p, 9, none⟩ (.int .i64 n) := ⟨_, rfl⟩
            have hto6 : CTo fb w p V U { C with commit := n } W6 V U m := by subst hW6; exact T5.out.trans (B5.out.2.1.withCommit n)
            have hpl : ¬ wr.heap.size ≤ p := by have := H.out.1.bx.lt; have := A1.out.1.size; omega
            have r6 : Rd W6 (wr.heap.size ≤ ·) 1 A3 n3 (ii C.members) := by subst hW6; exact B5.out.2.2.setCell (p := ⟨p, 9, none⟩) hpl _
            rw [← hW6]
            have ho6 : ({ C with commit := n } : Cr).Ok k := H.out.2.1.withCommit A1.out.2.2.2.2.2.2
            have hl6 := clast_any hto6.cx (hto6.cx.fit ho6) ho6.may
            have hm6 := fun W (hb : Below W6.heap.size W6 W) => member_any p C.last m.s.A m.s.n m.s.c m.s.L W ((hto6.cx.below hb).bx.c 4) (hto6.cx.below hb).at_.l H.out.2.2.2.z.1
            have hadv : C.advance = if hasC C.members C.id = false ∧ (memE C.s.l C.last).all (fun e => decide (e.a ≤ n)) = true then (({ C with commit := n } : Cr).follow 0, []) else Cr.sendAll { C with commit := n } := by
              rw [B4.out.2.2, if_neg]
              rintro (h1 | h1)
              · exact absurd h1 (by omega)
              · exact h1 (by rw [e])
            have hen6 : Env fb W6 := H.out.2.2.1.kept hto6.kept H.out.1.vf
            have K6 := Lib.hid (And.intro hto6 (And.intro r6 (And.intro ho6 (And.intro hadv hen6))))
            have Hl6 := Lib.hid hl6
            have Hm6 := Lib.hid hm6
            clear hW6 hto6 hpl r6 ho6 hl6 hm6 hadv hen6 c9 c0 f9
            go_wp2_with fail
            refine Hl6.out.mono ?_
            rintro e w7 ⟨rfl, hb7⟩
            go_wp2_with fail
            refine (Hm6.out w7 hb7).mono ?_
            rintro e w8 ⟨hb8, hm8⟩
            have hb8' : Below W6.heap.size W6 w8 := hb7.trans (hb8.mono hb7.size)
            have hhas := hasM_any A3 n3 c3 C.members C.id w8.drew (K6.out.2.1.below hb8').drew (by have := O3.out.2.2; omega)
            have hq : memE C.s.l C.last = (m.s.L.reverse.find? (mch C.last)).map en := by
              obtain ⟨_, _, _, _, k5, _⟩ := H.out.1.s_eq
              rw [← k5, memE_er]
            obtain ⟨q, hqe⟩ : ∃ q, m.s.L.reverse.find? (mch C.last) = q := ⟨_, rfl⟩
            rw [hqe] at hm8 hq
            obtain ⟨hs, hse⟩ : ∃ b, hasC C.members C.id = b := ⟨_, rfl⟩
            have hse' : (cmay C.members && decide (C.id ∈ C.members)) = hs := hse
            rw [hse'] at hhas
            have hadv := K6.out.2.2.2.1
            rw [hse, hq] at hadv
            have F8 : ∀ W, Below w8.heap.size w8 W → W.cell? ⟨p, 11, none⟩ = some (.int .i64 C.id) ∧ W.cell? ⟨p, 9, none⟩ = some (.int .i64 n) := fun W hb => ⟨((K6.out.1.cx.below hb8').below hb).bx.c 11, ((K6.out.1.cx.below hb8').below hb).bx.c 9⟩
            have hto8 : CTo fb w p V U { C with commit := n } w8.drew V U m := K6.out.1.below hb8'.drew
            have hfo := follow_any 0 hto8.cx
            have hal := sendAll_any hto8.cx K6.out.2.2.1 (K6.out.2.2.2.2.new hb8'.drew)
            have HF8 := Lib.hid F8
            have Hhas := Lib.hid hhas
            have Hfo := Lib.hid hfo
            have Hal := Lib.hid hal
            have K8 := Lib.hid (And.intro hto8 hadv)
            clear hhas hq hqe hse hse' hadv F8 hto8 hfo hal hb7 hb8
            have hq1 : V m.q := H.out.1.vq
            cases q with
            | none =>
              obtain rfl := hm8
              cases hs
              · go_upto_region 13 with (fail)
                refine wp_region_S 22 (fun W => Below w8.heap.size w8 W) (.take 0 (.take 1 (.take 2 (.take 3 (.take 4 (.one 5 (.take 6 (.take 7 (.take 8 (.take 9 (.take 10 (.take 11 (.take 12 (.take 13 (.take 14 (.take 15 (.take 16 (.take 17 (.take 18 (.take 19 (.take 20 (.take 21 (.one 22 (.nil)))))))))))))))))))))))) (by kernel_rfl) (Below.refl _ _).drew (fun _ _ _ _ h => h) (fun hS => ?_)
                repeat (first
                  | (refine wpS_take (v := ?_) rfl rfl (by rfl) ?_ ?_; rotate_left; (intro W hW; have hf := HF8.out W hW; go_split_ands; go_simp; try with_reducible rfl); try simp only [Act.put, List.setIfInBounds_toArray, List.set_cons_zero, List.set_cons_succ])
                  | (refine wpS_skip rfl rfl (by rfl) ?_; try simp only [Act.put, List.setIfInBounds_toArray, List.set_cons_zero, List.set_cons_succ]))
                refine wpS_one rfl (by rfl) (fun K hK => ?_)
                go_simp
                go_at_call 109
                refine (Hhas.out).mono ?_
                rintro e w9 ⟨rfl, rfl⟩
                refine hK (fun W => Below w8.heap.size w8 W) _ _ (fun _ h => h) hS ?_
                clear hK K
                try simp only [Act.put, List.setIfInBounds_toArray, List.set_cons_zero, List.set_cons_succ]
                repeat (first
                  | (refine wpS_take (v := ?_) rfl rfl (by rfl) ?_ ?_; rotate_left; (intro W hW; have hf := HF8.out W hW; go_split_ands; go_simp; try with_reducible rfl); try simp only [Act.put, List.setIfInBounds_toArray, List.set_cons_zero, List.set_cons_succ])
                  | (refine wpS_skip rfl rfl (by rfl) ?_; try simp only [Act.put, List.setIfInBounds_toArray, List.set_cons_zero, List.set_cons_succ]))
                refine wpS_last rfl (by rfl) (fun K hK => ?_)
                go_simp
                refine hK _ _ ?_
                clear hK K
                try simp only [Act.put, List.setIfInBounds_toArray, List.set_cons_zero, List.set_cons_succ]
                refine wpS_nil ?_
                go_wp2_with fail
                refine Hfo.out.mono ?_
                rintro e w9 ⟨rfl, hto9⟩
                have T9 := Lib.hid hto9
                clear hto9
                go_wp2_with fail
                go_ret
                rw [K8.out.2, if_pos ⟨by first | trivial | rfl, by first | trivial | rfl⟩]
                exact outNil (K8.out.1.trans T9.out)
              · go_upto_region 13 with (fail)
                refine wp_region_S 22 (fun W => Below w8.heap.size w8 W) (.take 0 (.take 1 (.take 2 (.take 3 (.take 4 (.one 5 (.take 6 (.take 7 (.take 8 (.take 9 (.take 10 (.take 11 (.take 12 (.take 13 (.take 14 (.take 15 (.take 16 (.take 17 (.take 18 (.take 19 (.take 20 (.take 21 (.one 22 (.nil)))))))))))))))))))))))) (by kernel_rfl) (Below.refl _ _).drew (fun _ _ _ _ h => h) (fun hS => ?_)
                repeat (first
                  | (refine wpS_take (v := ?_) rfl rfl (by rfl) ?_ ?_; rotate_left; (intro W hW; have hf := HF8.out W hW; go_split_ands; go_simp; try with_reducible rfl); try simp only [Act.put, List.setIfInBounds_toArray, List.set_cons_zero, List.set_cons_succ])
                  | (refine wpS_skip rfl rfl (by rfl) ?_; try simp only [Act.put, List.setIfInBounds_toArray, List.set_cons_zero, List.set_cons_succ]))
                refine wpS_one rfl (by rfl) (fun K hK => ?_)
                go_simp
                go_at_call 109
                refine (Hhas.out).mono ?_
                rintro e w9 ⟨rfl, rfl⟩
                refine hK (fun W => Below w8.heap.size w8 W) _ _ (fun _ h => h) hS ?_
                clear hK K
                try simp only [Act.put, List.setIfInBounds_toArray, List.set_cons_zero, List.set_cons_succ]
                repeat (first
                  | (refine wpS_take (v := ?_) rfl rfl (by rfl) ?_ ?_; rotate_left; (intro W hW; have hf := HF8.out W hW; go_split_ands; go_simp; try with_reducible rfl); try simp only [Act.put, List.setIfInBounds_toArray, List.set_cons_zero, List.set_cons_succ])
                  | (refine wpS_skip rfl rfl (by rfl) ?_; try simp only [Act.put, List.setIfInBounds_toArray, List.set_cons_zero, List.set_cons_succ]))
                refine wpS_last rfl (by rfl) (fun K hK => ?_)
                go_simp
                refine hK _ _ ?_
                clear hK K
                try simp only [Act.put, List.setIfInBounds_toArray, List.set_cons_zero, List.set_cons_succ]
                refine wpS_nil ?_
                go_wp2_with fail
                refine Hal.out.mono ?_
                intro e w9 h9
                obtain ⟨A9, n9, c9, X9, rfl, r9, m9, x9, k9⟩ := h9
                have K9 := Lib.hid (And.intro r9 (And.intro m9 (And.intro x9 k9)))
                clear r9 m9 x9 k9
                go_wp2_with fail
                go_ret
                rw [K8.out.2, if_neg (fun h => by have h2 := h.1; cases h2)]
                exact OutPost.up K8.out.1 (AllPost.out hq1 K8.out.1.cx.ul ⟨A9, n9, c9, X9, rfl, K9.out.1, K9.out.2.1, K9.out.2.2.1, K9.out.2.2.2⟩)
            | some x =>
              obtain ⟨B, rfl, hB, bB⟩ := hm8
              have HB := Lib.hid bB
              cases hs
              · by_cases hx : x.a ≤ n
                · have hx' : decide (x.a ≤ n) = true := decide_eq_true hx
                  have HFB : Hid (∀ W, Below w8.heap.size w8 W → W.cell? ⟨p, 11, none⟩ = some (.int .i64 C.id) ∧ W.cell? ⟨p, 9, none⟩ = some (.int .i64 n) ∧ W.cell? ⟨B, 0, none⟩ = some (.int .i64 x.a)) := fun W hb => ⟨(HF8.out W hb).1, (HF8.out W hb).2, (HB.out.below hb).c 0⟩
                  clear bB
                  go_upto_region 13 with (fail)
                  refine wp_region_S 22 (fun W => Below w8.heap.size w8 W) (.take 0 (.take 1 (.take 2 (.take 3 (.take 4 (.one 5 (.take 6 (.take 7 (.take 8 (.take 9 (.take 10 (.take 11 (.take 12 (.take 13 (.take 14 (.take 15 (.take 16 (.take 17 (.take 18 (.take 19 (.take 20 (.take 21 (.one 22 (.nil)))))))))))))))))))))))) (by kernel_rfl) (Below.refl _ _).drew (fun _ _ _ _ h => h) (fun hS => ?_)
                  repeat (first
                    | (refine wpS_take (v := ?_) rfl rfl (by rfl) ?_ ?_; rotate_left; (intro W hW; have hf := HFB.out W hW; go_split_ands; go_simp; try with_reducible rfl); try simp only [Act.put, List.setIfInBounds_toArray, List.set_cons_zero, List.set_cons_succ])
                    | (refine wpS_skip rfl rfl (by rfl) ?_; try simp only [Act.put, List.setIfInBounds_toArray, List.set_cons_zero, List.set_cons_succ]))
                  refine wpS_one rfl (by rfl) (fun K hK => ?_)
                  go_simp
                  go_at_call 109
                  refine (Hhas.out).mono ?_
                  rintro e w9 ⟨rfl, rfl⟩
                  refine hK (fun W => Below w8.heap.size w8 W) _ _ (fun _ h => h) hS ?_
                  clear hK K
                  try simp only [Act.put, List.setIfInBounds_toArray, List.set_cons_zero, List.set_cons_succ]
                  repeat (first
                    | (refine wpS_take (v := ?_) rfl rfl (by rfl) ?_ ?_; rotate_left; (intro W hW; have hf := HFB.out W hW; go_split_ands; go_simp; try with_reducible rfl); try simp only [Act.put, List.setIfInBounds_toArray, List.set_cons_zero, List.set_cons_succ])
                    | (refine wpS_skip rfl rfl (by rfl) ?_; try simp only [Act.put, List.setIfInBounds_toArray, List.set_cons_zero, List.set_cons_succ]))
                  refine wpS_last rfl (by rfl) (fun K hK => ?_)
                  go_simp
                  refine hK _ _ ?_
                  clear hK K
                  try simp only [Act.put, List.setIfInBounds_toArray, List.set_cons_zero, List.set_cons_succ]
                  refine wpS_nil ?_
                  go_wp2_with fail
                  refine Hfo.out.mono ?_
                  rintro e w9 ⟨rfl, hto9⟩
                  have T9 := Lib.hid hto9
                  clear hto9
                  go_wp2_with fail
                  go_ret
                  rw [K8.out.2, if_pos ⟨by first | trivial | rfl, by show decide (x.a ≤ n) = true; exact hx'⟩]
                  exact outNil (K8.out.1.trans T9.out)
                · have hx' : decide (x.a ≤ n) = false := decide_eq_false hx
                  have HFB : Hid (∀ W, Below w8.heap.size w8 W → W.cell? ⟨p, 11, none⟩ = some (.int .i64 C.id) ∧ W.cell? ⟨p, 9, none⟩ = some (.int .i64 n) ∧ W.cell? ⟨B, 0, none⟩ = some (.int .i64 x.a)) := fun W hb => ⟨(HF8.out W hb).1, (HF8.out W hb).2, (HB.out.below hb).c 0⟩
                  clear bB
                  go_upto_region 13 with (fail)
                  refine wp_region_S 22 (fun W => Below w8.heap.size w8 W) (.take 0 (.take 1 (.take 2 (.take 3 (.take 4 (.one 5 (.take 6 (.take 7 (.take 8 (.take 9 (.take 10 (.take 11 (.take 12 (.take 13 (.take 14 (.take 15 (.take 16 (.take 17 (.take 18 (.take 19 (.take 20 (.take 21 (.one 22 (.nil)))))))))))))))))))))))) (by kernel_rfl) (Below.refl _ _).drew (fun _ _ _ _ h => h) (fun hS => ?_)
                  repeat (first
                    | (refine wpS_take (v := ?_) rfl rfl (by rfl) ?_ ?_; rotate_left; (intro W hW; have hf := HFB.out W hW; go_split_ands; go_simp; try with_reducible rfl); try simp only [Act.put, List.setIfInBounds_toArray, List.set_cons_zero, List.set_cons_succ])
                    | (refine wpS_skip rfl rfl (by rfl) ?_; try simp only [Act.put, List.setIfInBounds_toArray, List.set_cons_zero, List.set_cons_succ]))
                  refine wpS_one rfl (by rfl) (fun K hK => ?_)
                  go_simp
                  go_at_call 109
                  refine (Hhas.out).mono ?_
                  rintro e w9 ⟨rfl, rfl⟩
                  refine hK (fun W => Below w8.heap.size w8 W) _ _ (fun _ h => h) hS ?_
                  clear hK K
                  try simp only [Act.put, List.setIfInBounds_toArray, List.set_cons_zero, List.set_cons_succ]
                  repeat (first
                    | (refine wpS_take (v := ?_) rfl rfl (by rfl) ?_ ?_; rotate_left; (intro W hW; have hf := HFB.out W hW; go_split_ands; go_simp; try with_reducible rfl); try simp only [Act.put, List.setIfInBounds_toArray, List.set_cons_zero, List.set_cons_succ])
                    | (refine wpS_skip rfl rfl (by rfl) ?_; try simp only [Act.put, List.setIfInBounds_toArray, List.set_cons_zero, List.set_cons_succ]))
                  refine wpS_last rfl (by rfl) (fun K hK => ?_)
                  go_simp
                  refine hK _ _ ?_
                  clear hK K
                  try simp only [Act.put, List.setIfInBounds_toArray, List.set_cons_zero, List.set_cons_succ]
                  refine wpS_nil ?_
                  go_wp2_with fail
                  refine Hal.out.mono ?_
                  intro e w9 h9
                  obtain ⟨A9, n9, c9, X9, rfl, r9, m9, x9, k9⟩ := h9
                  have K9 := Lib.hid (And.intro r9 (And.intro m9 (And.intro x9 k9)))
                  clear r9 m9 x9 k9
                  go_wp2_with fail
                  go_ret
                  rw [K8.out.2, if_neg (fun h => by have h2 : decide (x.a ≤ n) = true := h.2; rw [hx'] at h2; cases h2)]
                  exact OutPost.up K8.out.1 (AllPost.out hq1 K8.out.1.cx.ul ⟨A9, n9, c9, X9, rfl, K9.out.1, K9.out.2.1, K9.out.2.2.1, K9.out.2.2.2⟩)
              · have HFB : Hid (∀ W, Below w8.heap.size w8 W → W.cell? ⟨p, 11, none⟩ = some (.int .i64 C.id) ∧ W.cell? ⟨p, 9, none⟩ = some (.int .i64 n) ∧ W.cell? ⟨B, 0, none⟩ = some (.int .i64 x.a)) := fun W hb => ⟨(HF8.out W hb).1, (HF8.out W hb).2, (HB.out.below hb).c 0⟩
                clear bB
                go_upto_region 13 with (fail)
                refine wp_region_S 22 (fun W => Below w8.heap.size w8 W) (.take 0 (.take 1 (.take 2 (.take 3 (.take 4 (.one 5 (.take 6 (.take 7 (.take 8 (.take 9 (.take 10 (.take 11 (.take 12 (.take 13 (.take 14 (.take 15 (.take 16 (.take 17 (.take 18 (.take 19 (.take 20 (.take 21 (.one 22 (.nil)))))))))))))))))))))))) (by kernel_rfl) (Below.refl _ _).drew (fun _ _ _ _ h => h) (fun hS => ?_)
                repeat (first
                  | (refine wpS_take (v := ?_) rfl rfl (by rfl) ?_ ?_; rotate_left; (intro W hW; have hf := HFB.out W hW; go_split_ands; go_simp; try with_reducible rfl); try simp only [Act.put, List.setIfInBounds_toArray, List.set_cons_zero, List.set_cons_succ])
                  | (refine wpS_skip rfl rfl (by rfl) ?_; try simp only [Act.put, List.setIfInBounds_toArray, List.set_cons_zero, List.set_cons_succ]))
                refine wpS_one rfl (by rfl) (fun K hK => ?_)
                go_simp
                go_at_call 109
                refine (Hhas.out).mono ?_
                rintro e w9 ⟨rfl, rfl⟩
                refine hK (fun W => Below w8.heap.size w8 W) _ _ (fun _ h => h) hS ?_
                clear hK K
                try simp only [Act.put, List.setIfInBounds_toArray, List.set_cons_zero, List.set_cons_succ]
                repeat (first
                  | (refine wpS_take (v := ?_) rfl rfl (by rfl) ?_ ?_; rotate_left; (intro W hW; have hf := HFB.out W hW; go_split_ands; go_simp; try with_reducible rfl); try simp only [Act.put, List.setIfInBounds_toArray, List.set_cons_zero, List.set_cons_succ])
                  | (refine wpS_skip rfl rfl (by rfl) ?_; try simp only [Act.put, List.setIfInBounds_toArray, List.set_cons_zero, List.set_cons_succ]))
                refine wpS_last rfl (by rfl) (fun K hK => ?_)
                go_simp
                refine hK _ _ ?_
                clear hK K
                try simp only [Act.put, List.setIfInBounds_toArray, List.set_cons_zero, List.set_cons_succ]
                refine wpS_nil ?_
                go_wp2_with fail
                refine Hal.out.mono ?_
                intro e w9 h9
                obtain ⟨A9, n9, c9, X9, rfl, r9, m9, x9, k9⟩ := h9
                have K9 := Lib.hid (And.intro r9 (And.intro m9 (And.intro x9 k9)))
                clear r9 m9 x9 k9
                go_wp2_with fail
                go_ret
                rw [K8.out.2, if_neg (fun h => by have h2 := h.1; cases h2)]
                exact OutPost.up K8.out.1 (AllPost.out hq1 K8.out.1.cx.ul ⟨A9, n9, c9, X9, rfl, K9.out.1, K9.out.2.1, K9.out.2.2.1, K9.out.2.2.2⟩)
          · have e1 : (r2 != C.s.tm) = true := by simp [e]
            have e2 : errC 0 = .nilIface := rfl
            go_wp2_with fail
            go_ret
            rw [B4.out.2.2, if_pos (.inr fun h => e (congrArg Prod.snd h))]
            exact outNil T5.out
        · have e1 : errC r1 = .iface 105 (.int .i64 r1) := if_neg h0
          go_wp2_with fail
          go_ret
          rw [B4.out.2.2, if_pos (.inr fun h => h0 (congrArg Prod.fst h))]
          exact outNil T5.out
    · intro x q kl y y2 w3 cnt1 hkey hlx hR3 hat hrg3 hlt hg3 hs3 hen
      obtain ⟨x', ex, rfl, _⟩ := Maps.keyOf_int_inv Tryz.underlying3 hkey
      injection ex with _ ex
      subst ex
      simp only [peR_mk, Option.some.injEq, Prod.mk.injEq] at hR3
      obtain ⟨rfl, rfl⟩ := hR3
      have hq := O1.out.2.2.2.2.2.1.here hat
      have hk3 := (Kept.refl (· = W1.heap.size) wr).grown hg3 fun b e => by injection e with e; exact e.symm
      have o3 : w3.ownsRow w1.heap.size 190 2 (.slice A j c) j (flat mkc ms) := hk3.own R.out.1 fun b hb e => R.out.2.2.2.1 (e ▸ hb)
      have b3 : Below w1.heap.size w1 w3 := R.out.2.2.1.grown hg3 R.out.2.2.1.size (by intro b e; injection e with e; have := O1.out.2.2.1; omega)
      have K3 := Lib.hid (And.intro o3 (And.intro b3 (And.intro hrg3 (And.intro hs3 (And.intro hq hlx)))))
      clear hq hk3 o3 b3 hrg3 hat hkey hg3 hrg hs3 hlx
      have hjl : j ≤ 65 := by have := R.out.2.2.2.2.1; omega
      have hz3 : w1.heap.size ≤ w3.heap.size := K3.out.2.1.size
      unfold peV at hen ⊢
      go_wp2_with (at_builtin; go_loud (refine wpList_append_any (news := [.int .i64 x, .int .i64 q.mt]) _ Tryz.underlying191 mark_elem rfl (by omega) rfl rfl rfl ((K3.out.1.alloc _).alloc _) rfl (show Rd _ _ 2 _ 1 [.int .i64 x, .int .i64 q.mt] from Rd.blitg (cs := #[.int .i64 x, .int .i64 q.mt]) rfl (by simp)) (by intro u hu; simp only [List.mem_cons, List.not_mem_nil, or_false] at hu; rcases hu with rfl | rfl <;> rfl) (by omega) (by simp; omega) rfl rfl ?_; intro A1 c1 w6 hown1 hg1 hat1))
      go_roundg cnt1
      case measure => exact hlt
      case rel =>
        have hr2 := R.out.2.2.2.2
        have hz5 : W1.heap.size + 1 ≤ w3.heap.size := by rw [K3.out.2.2.2.1]; exact hr2.2
        refine ⟨_, ms ++ [⟨x, q.mt⟩], A1, j + 1, c1, rfl, ?_, ?_, R.out.2.1.step K3.out.2.2.2.2.2 K3.out.2.2.2.2.1, ?_, ?_, by omega, ?_⟩
        · refine ((K3.out.2.2.1.alloc _).alloc _).kept hg1 ?_ ?_
          · intro e
            have := (own_lt R.out.1 m.q e.symm).1
            have := H.out.1.pm.lt
            have := O1.out.2.2.2.1.size
            omega
          · exact fun e => R.out.2.2.2.1 e.symm
        · have e1 : flat mkc (ms ++ [⟨x, q.mt⟩]) = flat mkc ms ++ [.int .i64 x, .int .i64 q.mt] := by simp [flat, mkc]
          rw [e1]
          exact hown1
        · refine (((K3.out.2.1.alloc hz3 _).alloc (by simp; omega) _)).grown hg1 (by simp; omega) ?_
          intro b e
          exact (own_lt R.out.1 b e).1
        · rcases hat1 with e | e
          · rw [e]; exact R.out.2.2.2.1
          · rw [e]
            intro e2
            injection e2 with e2
            simp at e2
            omega
        · have := hg1.size
          simp at this
          omega
end Go.Proofs.YtmhaahcbmdhinaaGreatDoor

namespace Go.Proofs.YtmhaahcbmdhinaaGreatDoor
open Go.RowKit
set_option maxRecDepth 100000
set_option linter.unusedVariables false
set_option linter.unusedSimpArgs false
theorem flat_mcell_app (X Y : List Mr) : flat mcell (X ++ Y) = flat mcell X ++ flat mcell Y := by simp [flat]
section
variable {W W2 : World} {B n c k c2 : Nat} {A A2 : Option Addr} {X Y : List Mr}
theorem Rm.join (h : Rm W B A n c X) (hy : ∀ y ∈ Y, y.At W (fun b => B ≤ b ∧ A.map (·.block) ≠ some b)) (ho : W2.ownsRow B 78 12 (.slice A2 k c2) k (flat mcell X ++ flat mcell Y)) (hg : W.grownBy W2 (A.map (·.block)))
    (ha : A2.map (·.block) = A.map (·.block) ∨ A2.map (·.block) = some W.heap.size) : Rm W2 B A2 k c2 (X ++ Y) := by
  refine ⟨by rw [flat_mcell_app]; exact ho, fun y hy' => ?_⟩
  have h1 : y.At W (fun b => B ≤ b ∧ A.map (·.block) ≠ some b) := (List.mem_append.1 hy').elim (h.dt y) (hy y)
  refine (h1.lt.keep fun b hb hl => hg.block b hl fun e => hb.1.2 e.symm).mono fun b hb => ⟨hb.1.1, ?_⟩
  rcases ha with e | e
  · rw [e]; exact hb.1.2
  · rw [e]; intro e2; injection e2 with e2; have := hb.2; omega
end
section
variable {fb p : Nat} {W w1 w2 w3 : World} {V U V2 U2 : Nat → Prop} {C C1 C2 : Cr} {m m2 : Mb} {A1 A2 A3 : Option Addr} {n1 c1 n2 c2 k c3 : Nat} {X1 X2 : List Mr}
/-- What is new is nothing that the member reads. -/
theorem CX.widen (h0 : CX fb W p V U C m) (h1 : CX fb w1 p V U C1 m) (hk : Kept (· = m.q) W w1) {N : Nat → Prop} (hN : ∀ b, N b → W.heap.size ≤ b ∧ b < w1.heap.size) (hh : C1.hv = C.hv) (hs : C1.s = C.s) : CX fb w1 p V (fun b => U b ∨ N b) C1 m :=
  ⟨h1.bx, h1.pm, h1.vp, h1.vq, h1.qp, h1.vv, fun b hb => .inl (h1.vu b hb), h1.vf, fun b hb => hb.elim (h1.ul b) fun h => (hN b h).2, h1.vt,
    (h0.at_.lt.keep fun b hb hl => hk.block b hl fun e => hb.1 (e ▸ h0.vu _ h0.vq)).mono fun b hb h => h.elim hb.1 fun h => by have := (hN b h).1; have := hb.2; omega, h1.st,
    (by rw [hh]; exact ((h0.hv.lt (by omega)).keep fun b hb hl => hk.block b hl fun e => hb.1 (e ▸ h0.vu _ h0.vq)).mono fun b hb h => h.elim hb.1 fun h => by have := (hN b h).1; have := hb.2; omega), h1.hk⟩
theorem sendAll_keep (C : Cr) : C.sendAll.1.hv = C.hv ∧ C.sendAll.1.s = C.s := by
  unfold Cr.sendAll
  rw [sendL_fst, knowL_eta]
  exact ⟨rfl, rfl⟩
theorem join_out (hc : CX fb W p V U C m) (h1 : Rm w1 W.heap.size A1 n1 c1 X1) (hk1 : Kept (· = m.q) W w1) (h2 : Rm w2 w1.heap.size A2 n2 c2 X2) (hU2 : ∀ x ∈ X2, x.At w2 (fun b => ¬ U2 b)) (hto : CTo fb w1 p V (fun b => U b ∨ A1.map (·.block) = some b) C2 w2 V2 U2 m2)
    (ho : w3.ownsRow W.heap.size 78 12 (.slice A3 k c3) k (flat mcell X1 ++ flat mcell X2)) (hg : w2.grownBy w3 (A1.map (·.block))) (ha : A3.map (·.block) = A1.map (·.block) ∨ A3.map (·.block) = some w2.heap.size) :
    Rm w3 W.heap.size A3 k c3 (X1 ++ X2) ∧ (∀ x ∈ X1 ++ X2, x.At w3 (fun b => ¬ U2 b)) ∧ CTo fb W p V U C2 w3 V2 U2 m2 := by
  have hA := own_lt h1.ow
  have hV : ∀ b, V b → b < W.heap.size := fun b hb => hc.ul b (hc.vu b hb)
  have hz := hk1.size
  have r1 : Rm w2 W.heap.size A1 n1 c1 X1 := h1.kept hto.kept hV
  have hnv : ∀ b, A1.map (·.block) = some b → ¬ V2 b := fun b e hv => (hto.vs b hv).elim (fun h => by have := hV b h; have := (hA b e).1; omega) fun h => by have := (hA b e).2; omega
  have hy : ∀ y ∈ X2, y.At w2 (fun b => W.heap.size ≤ b ∧ A1.map (·.block) ≠ some b) := fun y hy => (h2.at_ hy).mono fun b hb => ⟨by omega, fun e => by have := (hA b e).2; omega⟩
  have hA2 : ∀ b, A1.map (·.block) = some b → U2 b := fun b e => hto.us b (.inr e)
  refine ⟨r1.join hy ho hg ha, fun x hx => ?_, ?_⟩
  · have h4 : x.At w2 (fun b => ¬ U2 b) := by
      rcases List.mem_append.1 hx with h5 | h5
      · refine ((h1.dt x h5).lt.keep (W' := w2) fun b hb hl => hto.kept.block b hl fun hv => by have := hV b hv; have := hb.1.1; omega).mono fun b hb hu => ?_
        rcases hto.un b hu with (h6 | h6) | h6
        · have := hc.ul b h6; have := hb.1.1; omega
        · exact hb.1.2 h6
        · have := hb.2; omega
      · exact hU2 x h5
    exact h4.keep fun b hb hl => hg.block b hl fun e => hb (hA2 b e.symm)
  · refine ⟨hto.cx.hold (fun b hl hb => hg.block b hl fun e => hb.elim (hnv b e.symm) fun h => h (hA2 b e.symm)) hg.size, fun b hb => ?_, fun b hb => hto.us b (.inl hb), fun b hb => ?_, ?_⟩
    · exact (hto.vs b hb).imp id fun h => by omega
    · rcases hto.un b hb with (h6 | h6) | h6
      · exact .inl h6
      · exact .inr (hA b h6).1
      · exact .inr (by omega)
    · have k2 : Kept V W w2 := ((Kept.refl V W).trans hk1 fun b _ e => e ▸ hc.vq).trans hto.kept fun _ _ h => h
      have hgk := (Kept.refl (fun b => A1.map (·.block) = some b) w2).grown hg fun b e => e
      exact k2.trans hgk fun b hb e => by have := (hA b e).1; omega
end
end Go.Proofs.YtmhaahcbmdhinaaGreatDoor

namespace Go.Proofs.YtmhaahcbmdhinaaGreatDoor
open Go.RowKit
set_option maxRecDepth 100000
set_option linter.unusedVariables false
set_option linter.unusedSimpArgs false
def AddNo (W : World) (k : Int) (e : Ending) (w' : World) : Prop := e = .returned (.tuple #[.agg #[.int .i64 0, .int .i64 0, .slice none 0 0], .iface 105 (.int .i64 k)]) ∧ Below W.heap.size W w'
set_option maxHeartbeats 6400000 in
theorem add_no (k b t tm kd : Int) (A : Option Addr) (n c : Nat) (L : List Er) (Ad : Option Addr) (nd cd : Nat) (w : World) {ok : Nat → Prop} (hr : Rd w ok 4 A n (flat ecell L)) (hw : Wel L) (hm : lmay b t (L.map en) = true) (hn : n ≤ 1000000)
    (h : (k = 1 ∧ decide (tm < max (lstB t (L.map en)) 1) = true) ∨ (k = 1 ∧ decide (tm < max (lstB t (L.map en)) 1) = false ∧ (decide (1099511627776 < tm) = true ∨ decide (1099511627776 < tm) = false ∧ (decide (kd < 0) = true ∨ decide (kd < 0) = false ∧ (decide (2 < kd) = true ∨ decide (2 < kd) = false ∧ decide (1099511627776 ≤ lstA b (L.map en)) = true)))) ∨
      (decide (tm < max (lstB t (L.map en)) 1) = false ∧ decide (1099511627776 < tm) = false ∧ decide (kd < 0) = false ∧ decide (2 < kd) = false ∧ decide (1099511627776 ≤ lstA b (L.map en)) = false ∧ (k = 2 ∧ decide (4096 < (nd : Int)) = true ∨ decide (4096 < (nd : Int)) = false ∧ k = 10 ∧ decide (4096 ≤ (n : Int)) = true))) :
    Calls Tryz.prog 54 #[.agg #[.int .i64 b, .int .i64 t, .slice A n c], .int .i64 tm, .int .i64 kd, .slice Ad nd cd] w (AddNo w k) := by
  obtain ⟨W0, hW0⟩ : ∃ W0, W0 = (w.alloc (.cells #[.int .i64 b, .int .i64 t, .slice A n c] 38)).alloc (.cells #[.int .i64 0, .int .i64 0, .slice none 0 0] 38) := ⟨_, rfl⟩
  have b0 : Bx W0 w.heap.size #[.int .i64 b, .int .i64 t, .slice A n c] := by subst hW0; exact (Bx.new _ _ _ rfl).alloc _
  have b1 : Bx W0 (w.heap.size + 1) #[.int .i64 0, .int .i64 0, .slice none 0 0] := by subst hW0; exact Bx.new _ _ _ (by simp)
  have r0 : Rd W0 ok 4 A n (flat ecell L) := by subst hW0; exact (hr.alloc _).alloc _
  have hbe : Below w.heap.size w W0 := by subst hW0; exact ((Below.refl _ _).alloc (Nat.le_refl _) _).alloc (by simp) _
  have hmm := may_any b t A n c L W0 r0 hw hn
  have hlt := fun W (hb : Below W0.heap.size W0 W) => last_any b t A n c L W (r0.below hb) hn
  have F : ∀ W, Below W0.heap.size W0 W → W.cell? ⟨w.heap.size, 0, none⟩ = some (.int .i64 b) ∧ W.cell? ⟨w.heap.size, 1, none⟩ = some (.int .i64 t) ∧ W.cell? ⟨w.heap.size, 2, none⟩ = some (.slice A n c) := fun W hb => ⟨(b0.below hb).c 0, (b0.below hb).c 1, (b0.below hb).c 2⟩
  have G : ∀ W, Below W0.heap.size W0 W → W.cell? ⟨w.heap.size + 1, 0, none⟩ = some (.int .i64 0) ∧ W.cell? ⟨w.heap.size + 1, 1, none⟩ = some (.int .i64 0) ∧ W.cell? ⟨w.heap.size + 1, 2, none⟩ = some (.slice none 0 0) ∧ W.frozen? ⟨w.heap.size + 1, 0, none⟩ = false ∧ W.frozen? ⟨w.heap.size + 1, 1, none⟩ = false ∧ W.frozen? ⟨w.heap.size + 1, 2, none⟩ = false := fun W hb => ⟨(b1.below hb).c 0, (b1.below hb).c 1, (b1.below hb).c 2, (b1.below hb).f 0, (b1.below hb).f 1, (b1.below hb).f 2⟩
  rw [hm] at hmm
  generalize lstA b (L.map en) = z at hlt h
  generalize lstB t (L.map en) = y at hlt h
  have Hmm := Lib.hid hmm
  have Hlt := Lib.hid hlt
  have HW := Lib.hid hW0
  have FF := Lib.hid F
  have GG := Lib.hid G
  have HB := Lib.hid hbe
  obtain ⟨u0, u1, u2⟩ := F W0 (Below.refl _ _)
  clear hW0 b0 b1 hr r0 hmm hlt hbe F G hw hm
  rcases h with ⟨rfl, h⟩ | ⟨rfl, h, h1 | ⟨h1, h2 | ⟨h2, h3 | ⟨h3, h4⟩⟩⟩⟩ | ⟨h, h1, h2, h3, h4, ⟨rfl, h5⟩ | ⟨h5, rfl, h6⟩⟩
  all_goals
    go_enter Tryz.func54, Tryz.ntmps54
    go_wp2_with fail
    rw [← HW.out]
    refine Hmm.out.mono ?_
    rintro e w1 ⟨rfl, hb1⟩
    obtain ⟨v0, v1, v2⟩ := FF.out w1 hb1
    go_wp2_with fail
    refine (Hlt.out w1 hb1).mono ?_
    rintro e w2 ⟨rfl, hb2⟩
    have hb2' := hb1.trans (hb2.mono hb1.size)
    obtain ⟨a0, a1, a2⟩ := FF.out w2 hb2'
    obtain ⟨g0, g1, g2, g3, g4, g5⟩ := GG.out w2 hb2'
    have B2 := Lib.hid hb2'
    clear hb1 hb2 hb2' u0 u1 u2 v0 v1 v2
    go_wp2_with fail
    refine bodyPost_ret (by simp [results, Tryz.results54, go_sem, g0, g1, g2]; rfl) rfl ?_
    exact ⟨rfl, (((HB.out.trans (B2.out.mono HB.out.size)).setCell (p := ⟨w.heap.size + 1, 0, none⟩) (Nat.le_succ _) _).setCell (p := ⟨w.heap.size + 1, 1, none⟩) (Nat.le_succ _) _).setCell (p := ⟨w.heap.size + 1, 2, none⟩) (Nat.le_succ _) _⟩
def AddAll (W : World) (b t tm kd : Int) (n : Nat) (L : List Er) (d : List UInt8) (r : Int × List En) (e : Ending) (w' : World) : Prop :=
  if r.1 = 0 then AddPost W b t tm kd (lstA b (L.map en)) n L d e w' else AddNo W r.1 e w'
theorem AddAll.no {W : World} {b t tm kd : Int} {n : Nat} {L : List Er} {d : List UInt8} {r : Int × List En} {k : Int} {e : Ending} {w' : World} (hr : r = (k, [])) (hk : k ≠ 0) (h : AddNo W k e w') : AddAll W b t tm kd n L d r e w' := by
  subst hr
  unfold AddAll
  rw [if_neg hk]
  exact h
theorem AddAll.yes {W : World} {b t tm kd : Int} {n : Nat} {L : List Er} {d : List UInt8} {r : Int × List En} {e : Ending} {w' : World} (hr : r.1 = 0) (h : AddPost W b t tm kd (lstA b (L.map en)) n L d e w') : AddAll W b t tm kd n L d r e w' := by
  unfold AddAll
  rw [if_pos hr]
  exact h
theorem add_all (b t tm kd : Int) (A : Option Addr) (n c : Nat) (L : List Er) (Ad : Option Addr) (nd cd : Nat) (d : List UInt8) (w : World) (hr : Rd w T 4 A n (flat ecell L)) (hd : Dat w L) (hw : Wel L) (hs : ∀ x ∈ L, x.n ≤ 1000000) (hm : lmay b t (L.map en) = true) (hdr : Rd w T 1 Ad nd (bs d)) :
    Calls Tryz.prog 54 #[.agg #[.int .i64 b, .int .i64 t, .slice A n c], .int .i64 tm, .int .i64 kd, .slice Ad nd cd] w (AddAll w b t tm kd n L d (addL b t (L.map en) tm kd d)) := by
  have hl := hr.flen ecell_len (by omega)
  have hdl := hdr.blen
  have hn := (lmay_iff.1 hm).2.1
  rw [List.length_map] at hn
  by_cases h1 : tm < max (lstB t (L.map en)) 1 ∨ 1099511627776 < tm ∨ kd < 0 ∨ 2 < kd ∨ 1099511627776 ≤ lstA b (L.map en)
  · have e : addL b t (L.map en) tm kd d = (1, []) := by unfold addL; rw [if_pos h1]
    refine (add_no 1 b t tm kd A n c L Ad nd cd w hr hw hm (by omega) ?_).mono fun _ _ h => AddAll.no e (by decide) h
    by_cases g1 : tm < max (lstB t (L.map en)) 1
    · exact .inl ⟨rfl, decide_eq_true g1⟩
    · refine .inr (.inl ⟨rfl, decide_eq_false g1, ?_⟩)
      by_cases g2 : 1099511627776 < tm
      · exact .inl (decide_eq_true g2)
      · refine .inr ⟨decide_eq_false g2, ?_⟩
        by_cases g3 : kd < 0
        · exact .inl (decide_eq_true g3)
        · refine .inr ⟨decide_eq_false g3, ?_⟩
          by_cases g4 : 2 < kd
          · exact .inl (decide_eq_true g4)
          · refine .inr ⟨decide_eq_false g4, decide_eq_true ?_⟩
            omega
  · have hf : ∀ {q : Prop} [Decidable q], ¬ q → decide q = false := fun h => decide_eq_false h
    have g1 : ¬ tm < max (lstB t (L.map en)) 1 := fun h => h1 (.inl h)
    have g2 : ¬ 1099511627776 < tm := fun h => h1 (.inr (.inl h))
    have g3 : ¬ kd < 0 := fun h => h1 (.inr (.inr (.inl h)))
    have g4 : ¬ 2 < kd := fun h => h1 (.inr (.inr (.inr (.inl h))))
    have g5 : ¬ 1099511627776 ≤ lstA b (L.map en) := fun h => h1 (.inr (.inr (.inr (.inr h))))
    by_cases h2 : 4096 < d.length
    · have e : addL b t (L.map en) tm kd d = (2, []) := by unfold addL; rw [if_neg h1, if_pos h2]
      exact (add_no 2 b t tm kd A n c L Ad nd cd w hr hw hm (by omega) (.inr (.inr ⟨hf g1, hf g2, hf g3, hf g4, hf g5, .inl ⟨rfl, decide_eq_true (by omega)⟩⟩))).mono fun _ _ h => AddAll.no e (by decide) h
    · by_cases h3 : 4096 ≤ (L.map en).length
      · have e : addL b t (L.map en) tm kd d = (10, []) := by unfold addL; rw [if_neg h1, if_neg h2, if_pos h3]
        rw [List.length_map] at h3
        exact (add_no 10 b t tm kd A n c L Ad nd cd w hr hw hm (by omega) (.inr (.inr ⟨hf g1, hf g2, hf g3, hf g4, hf g5, .inr ⟨hf (by omega), rfl, decide_eq_true (by omega)⟩⟩))).mono fun _ _ h => AddAll.no e (by decide) h
      · have e : (addL b t (L.map en) tm kd d).1 = 0 := by unfold addL; rw [if_neg h1, if_neg h2, if_neg h3]
        rw [List.length_map] at h3
        exact (add_yes b t tm kd A n c L Ad nd cd d w hr hd hw hs hm hdr (by omega) (by omega) (by omega) (by omega) (by omega) (by omega) (by omega) (by omega)).mono fun _ _ h => AddAll.yes e h
end Go.Proofs.YtmhaahcbmdhinaaGreatDoor

namespace Go.Proofs.YtmhaahcbmdhinaaGreatDoor
open Go.RowKit
set_option maxRecDepth 100000
set_option linter.unusedVariables false
set_option linter.unusedSimpArgs false
def Mb.withLog (m : Mb) (A : Option Addr) (n c : Nat) (L : List Er) : Mb := { m with s := { m.s with A := A, n := n, c := c, L := L } }
section
variable {fb p : Nat} {w W W' : World} {V U V' U' : Nat → Prop} {C C' : Cr} {m m' : Mb}
theorem CTo.remap (h : CTo fb w p V U C W V' U' m) (hk : Kept (· = m.q) W W') {f : Int → Option Pe} (hp : Pm W' m.q f) : CTo fb w p V U { C with peers := f } W' V' U' m :=
  ⟨h.cx.remap hk hp, h.vs, h.us, h.un, h.kept.trans hk fun b hb e => (h.vs b (e ▸ h.cx.vq)).elim id fun h2 => by omega⟩
/-- The log that a call has made takes the place of the old one. -/
theorem CTo.logged {A : Option Addr} {n c : Nat} {L : List Er} (h : CTo fb w p V U C W V' U' m) (hr : Rd W (fun b => ¬ U' b) 4 A n (flat ecell L)) (hd : ∀ y ∈ L, Rd W (fun b => ¬ U' b) 1 y.A y.n (bs y.d) ∧ y.n ≤ y.m ∧ y.m ≤ maxLen) (hc : n ≤ c ∧ c ≤ maxLen) :
    CTo fb w p V U (C.withLog (L.map en)) (((W.setCell ⟨p, 2, none⟩ (.int .i64 m.s.b)).setCell ⟨p, 3, none⟩ (.int .i64 m.s.t)).setCell ⟨p, 4, none⟩ (.slice A n c)) V' U' (m.withLog A n c L) := by
  have hx := h.cx
  have hg : W.grownBy (((W.setCell ⟨p, 2, none⟩ (.int .i64 m.s.b)).setCell ⟨p, 3, none⟩ (.int .i64 m.s.t)).setCell ⟨p, 4, none⟩ (.slice A n c)) (some p) := gb_trans (gb_trans (gb_set _ p 2 _) (gb_set _ p 3 _)) (gb_set _ p 4 _)
  have hu : ∀ b, ¬ U' b → some b ≠ some p := fun b hb e => by injection e with e; exact hb (e ▸ hx.vu p hx.vp)
  have hbx : Bx (((W.setCell ⟨p, 2, none⟩ (.int .i64 m.s.b)).setCell ⟨p, 3, none⟩ (.int .i64 m.s.t)).setCell ⟨p, 4, none⟩ (.slice A n c)) p ((m.withLog A n c L).cells (C.withLog (L.map en))) := ((hx.bx.set 2 (.int .i64 m.s.b)).set 3 (.int .i64 m.s.t)).set 4 (.slice A n c)
  have hat := hx.at_
  refine ⟨⟨hbx, hx.pm.keep (hg.block _ hx.pm.lt fun e => hx.qp (by injection e)), hx.vp, hx.vq, hx.qp, hx.vv, hx.vu, hx.vf, fun b hb => Nat.lt_of_lt_of_le (hx.ul b hb) hg.size, ?_, ?_, ?_, hx.hv.keep fun b hb hl => hg.block b hl (hu b hb), hx.hk⟩, h.vs, h.us, h.un, ?_⟩
  · refine ⟨hx.vt.1, ?_⟩
    rcases hx.vt.2 with h1 | ⟨g, cap, cur, h1, h2, h3, h4⟩
    · exact .inl h1
    · refine .inr ⟨g, cap, cur, h1, h2, ?_, h4⟩
      rw [hg.block g (Array.getElem?_eq_some_iff.1 h3).1 (fun e => (hx.vv g (by injection h1 with h1; rw [h1]; rfl)).2.1 (by injection e)), h3]
  · have hk : ∀ b, ¬ U' b → b < W.heap.size → _ := fun b hb hl => hg.block b hl (hu b hb)
    exact ⟨hr.keep hk, fun y hy => ⟨(hd y hy).1.keep hk, (hd y hy).2⟩, hat.cf.keep hk, hat.sn.keep hk, hc, hat.k2, hat.k3⟩
  · have := hx.st
    unfold Mb.withLog Cr.withLog Sv.st
    dsimp only
    rw [← this]
    rfl
  · exact h.kept.trans ((Kept.refl (· = p) W).grown hg fun b e => by injection e with e; exact e.symm) fun b hb e => (h.vs b (e ▸ hx.vp)).elim id fun h2 => by omega
/-- Only cells of its block have turned: other numbers. -/
theorem CTo.cells (h : CTo fb w p V U C W V' U' m) (hb : Bx W' p (m.cells C')) (hk : W.grownBy W' (some p)) (h1 : C'.s = C.s) (h2 : C'.peers = C.peers) (h3 : C'.votes = C.votes) (h4 : C'.hv = C.hv) : CTo fb w p V U C' W' V' U' m :=
  ⟨h.cx.to hb hk h1 h2 h3 h4, h.vs, h.us, h.un, h.kept.trans ((Kept.refl (· = p) W).grown hk fun b e => by injection e with e; exact e.symm) fun b hb e => (h.vs b (e ▸ h.cx.vp)).elim id fun h2 => by omega⟩
def Cr.begins (C : Cr) : Cr := { C with role := 2, leader := C.id, gone := 0, peers := fun _ => none }
theorem CX.leads (h : CX fb w p V U C m) (hf : fb ≤ w.heap.size) {o : Obj} (ho : o = .map #[] 0) :
    CTo fb w p V U C.begins (((((w.alloc o).setCell ⟨p, 7, none⟩ (.int .i64 2)).setCell ⟨p, 8, none⟩ (.int .i64 C.id)).setCell ⟨p, 13, none⟩ (.int .i64 0)).setCell ⟨p, 16, none⟩ (.map (some w.heap.size))) (fun b => V b ∨ b = w.heap.size) (fun b => U b ∨ b = w.heap.size) { m with q := w.heap.size } := by
  subst ho
  obtain ⟨W1, hW1⟩ : ∃ W1, W1 = ((((w.alloc (.map #[] 0)).setCell ⟨p, 7, none⟩ (.int .i64 2)).setCell ⟨p, 8, none⟩ (.int .i64 C.id)).setCell ⟨p, 13, none⟩ (.int .i64 0)).setCell ⟨p, 16, none⟩ (.map (some w.heap.size)) := ⟨_, rfl⟩
  have hpl := h.bx.lt
  have hbx : Bx W1 p (Mb.cells { m with q := w.heap.size } C.begins) := by
    subst hW1
    exact (((((h.bx.alloc (.map #[] 0)).set 7 (.int .i64 2)).set 8 (.int .i64 C.id)).set 13 (.int .i64 0)).set 16 (.map (some w.heap.size)))
  have hk : ∀ b, b < w.heap.size → b ≠ p → W1.heap[b]? = w.heap[b]? := fun b hb hne => by
    subst hW1
    iterate 4 refine (Below.heap_setCell _ _ _ b hne).trans ?_
    exact Below.heap_alloc _ _ _ hb
  have hm : W1.heap[w.heap.size]? = some (.map #[] 0) := by
    subst hW1
    have hne : w.heap.size ≠ p := by omega
    iterate 4 refine (Below.heap_setCell _ _ _ _ hne).trans ?_
    exact heap_alloc_new w _
  have hz : W1.heap.size = w.heap.size + 1 := by subst hW1; simp [World.setCell]
  have hos : W1.os = w.os ∧ W1.tape = w.tape ∧ W1.output = w.output := by subst hW1; exact ⟨rfl, rfl, rfl⟩
  rw [← hW1]
  clear hW1
  have hup : U p := h.vu p h.vp
  have hkn : ∀ b, ¬ (U b ∨ b = w.heap.size) → b < w.heap.size → W1.heap[b]? = w.heap[b]? := fun b hb hl => hk b hl fun e => hb (.inl (e ▸ hup))
  have hlt := h.at_.lt
  have hh := h.hv.lt (by omega)
  refine ⟨⟨hbx, Pm.made_at hm, .inl h.vp, .inr rfl, by show w.heap.size ≠ p; omega, fun g hg => ?_, fun b hb => hb.imp (h.vu b) id, fun b hb => hb.elim (h.vf b) fun e => by omega, fun b hb => ?_, ?_, ?_, h.st, ?_, h.hk⟩, fun b hb => hb.imp id fun e => by omega, fun b hb => .inl hb, fun b hb => hb.imp id fun e => by omega, hos.1, hos.2.1, hos.2.2, by omega, fun b hl hb => hk b hl fun e => hb (e ▸ h.vp)⟩
  · obtain ⟨h1, h2, h3⟩ := h.vv g hg
    exact ⟨.inl h1, h2, fun e => by have := h.ul g (h.vu g h1); have e2 : g = w.heap.size := e; omega⟩
  · rcases hb with hb | rfl
    · have := h.ul b hb; omega
    · omega
  · refine ⟨h.vt.1, ?_⟩
    rcases h.vt.2 with h1 | ⟨g, cap, cur, h1, h2, h3, h4⟩
    · exact .inl h1
    · refine .inr ⟨g, cap, cur, h1, h2, ?_, h4⟩
      rw [hk g (Array.getElem?_eq_some_iff.1 h3).1 (h.vv g (by injection h1 with h1; rw [h1]; rfl)).2.1, h3]
  · refine (hlt.mono (ok' := fun b => ¬ (U b ∨ b = w.heap.size)) fun b hb h2 => h2.elim hb.1 fun e => by have := hb.2; omega).keep hkn
  · refine (hh.mono (ok' := fun b => ¬ (U b ∨ b = w.heap.size)) fun b hb h2 => h2.elim hb.1 fun e => by have := hb.2; omega).keep hkn
end
end Go.Proofs.YtmhaahcbmdhinaaGreatDoor

namespace Go.Proofs.YtmhaahcbmdhinaaGreatDoor
open Go.RowKit
set_option maxRecDepth 100000
set_option linter.unusedVariables false
set_option linter.unusedSimpArgs false
theorem sendL_len : ∀ (l : List Int) (C : Cr), (C.sendL l).2.length = l.length
  | [], _ => rfl
  | w :: l, C => by
    show (_ :: ((C.know w).sendL l).2).length = _
    rw [List.length_cons, sendL_len l (C.know w)]
    rfl
theorem sendAll_len (C : Cr) : C.sendAll.2.length = C.others.length := sendL_len _ _
theorem advance_len {C : Cr} {k : Nat} (h : C.Ok k) : C.advance.2.length ≤ 7 := by
  unfold Cr.advance
  dsimp only
  split
  · exact Nat.zero_le _
  · split
    · exact Nat.zero_le _
    · rw [sendAll_len]
      exact others_len (C := { C with commit := _ }) h.may
theorem lead_eq (C : Cr) : C.lead = if (addL C.s.b C.s.t C.s.l C.s.tm 0 []).1 = 0 then ((C.begins.knowL C.others).withLog (addL C.s.b C.s.t C.s.l C.s.tm 0 []).2).tell else ((C.begins.knowL C.others).follow 0, []) := by
  unfold Cr.lead
  have e : Cr.knowL { C with role := 2, leader := C.id, gone := 0, peers := fun _ => none } C.others = C.begins.knowL C.others := rfl
  rw [e, knowL_eta]
  rfl
theorem Cr.Ok.begins {C : Cr} {k : Nat} (h : C.Ok k) : C.begins.Ok k := h.leads
def ConfPostI (W : World) (l : List Int) (e : Ending) (w' : World) : Prop := ConfPost W l e w'
set_option maxHeartbeats 12800000 in
theorem lead_any {fb p : Nat} {w : World} {V U : Nat → Prop} {C : Cr} {m : Mb} {k : Nat} (h : CX fb w p V U C m) (ho : C.Ok k) (he : Env fb w) :
    Calls Tryz.prog 112 #[.pointer (some ⟨p, 0, none⟩)] w (OutPost fb w p V U C.lead) := by
  have hf := h.fit ho
  obtain ⟨W1, hW1⟩ : ∃ W1, W1 = ((((w.alloc (.map #[] 0)).setCell ⟨p, 7, none⟩ (.int .i64 2)).setCell ⟨p, 8, none⟩ (.int .i64 C.id)).setCell ⟨p, 13, none⟩ (.int .i64 0)).setCell ⟨p, 16, none⟩ (.map (some w.heap.size)) := ⟨_, rfl⟩
  have hto := h.leads he.le rfl
  rw [← hW1] at hto
  have hl0 : C.begins.others = C.others := rfl
  have hen1 : Env fb W1 := he.kept hto.kept h.vf
  have hot := others_any hto.cx hf ho.may hen1.ev
  have hin := fun x (hx : x ∈ C.others) => others_in ho.may hx
  have hln := others_len ho.may
  obtain ⟨l0, hl0'⟩ : ∃ l0, C.others = l0 := ⟨_, rfl⟩
  have hle := lead_eq C
  rw [hl0] at hot
  rw [hl0'] at hot hin hln hle
  have c7 : w.cell? ⟨p, 7, none⟩ = some (.int .i64 C.role) := h.bx.c 7
  have c8 : w.cell? ⟨p, 8, none⟩ = some (.int .i64 C.leader) := h.bx.c 8
  have c11 : w.cell? ⟨p, 11, none⟩ = some (.int .i64 C.id) := h.bx.c 11
  have c13 : w.cell? ⟨p, 13, none⟩ = some (.int .i64 C.gone) := h.bx.c 13
  have c16 : w.cell? ⟨p, 16, none⟩ = some (.map (some m.q)) := h.bx.c 16
  have f7 : (w.alloc (.map #[] 0)).frozen? ⟨p, 7, none⟩ = false := (h.bx.alloc _).f 7
  have f8 : (w.alloc (.map #[] 0)).frozen? ⟨p, 8, none⟩ = false := (h.bx.alloc _).f 8
  have f13 : (w.alloc (.map #[] 0)).frozen? ⟨p, 13, none⟩ = false := (h.bx.alloc _).f 13
  have f16 : (w.alloc (.map #[] 0)).frozen? ⟨p, 16, none⟩ = false := (h.bx.alloc _).f 16
  have d7 : (w.alloc (.map #[] 0)).cell? ⟨p, 7, none⟩ = some (.int .i64 C.role) := (h.bx.alloc _).c 7
  have d8 : (w.alloc (.map #[] 0)).cell? ⟨p, 8, none⟩ = some (.int .i64 C.leader) := (h.bx.alloc _).c 8
  have d13 : (w.alloc (.map #[] 0)).cell? ⟨p, 13, none⟩ = some (.int .i64 C.gone) := (h.bx.alloc _).c 13
  have d16 : (w.alloc (.map #[] 0)).cell? ⟨p, 16, none⟩ = some (.map (some m.q)) := (h.bx.alloc _).c 16
  have hmm := @run_makeMap Tryz.prog
  have HW := Lib.hid hW1
  have H := Lib.hid (And.intro hto (And.intro ho (And.intro hen1 (And.intro hin (And.intro hln (And.intro hle hf))))))
  have hhe := Lib.hid (And.intro h he)
  have Hot := Lib.hid hot
  clear hW1 hto ho hen1 hin hln hle hot hl0 hl0' hf h he
  go_enter Tryz.func112, Tryz.ntmps112
  go_upto_region 2 with (fail)
  rw [← HW.out]
  clear c7 c8 c11 c13 c16 d7 d8 d13 d16 f7 f8 f13 f16 hmm
  go_wp2_with fail
  refine Hot.out.mono ?_
  intro e w2 h2
  obtain ⟨A0, n0, c0, rfl, o0, hb2⟩ := h2
  have hl : l0.length = n0 := by have := o0.1; simpa [ii] using this
  have O := Lib.hid (And.intro o0 (And.intro hb2 hl))
  clear o0 hb2 hl
  go_wp2_with fail
  go_loopg [4, 29] n0 (fun gm s4 s29 wr => ∃ (j : Nat), gm = n0 - j ∧ j ≤ n0 ∧ s29 = .int .i64 j ∧ Kept (· = w.heap.size) w2 wr ∧ Pm wr w.heap.size (C.begins.knowL (l0.take j)).peers)
  case atStart => exact ⟨0, by omega, by omega, rfl, Kept.refl _ _, (H.out.1.cx.below O.out.2.1).pm⟩
  case round =>
    obtain ⟨j, hm, hj, rfl, hR⟩ := hrel
    have Hm := Lib.hid hm
    have R := Lib.hid hR
    clear hm hR
    by_cases hlt : j < n0
    · have hltI : decide ((j : Int) < (n0 : Int)) = true := decide_eq_true (by omega)
      have hq1 : ∀ b, W1.heap.size ≤ b → ¬ b = w.heap.size := fun b hb e => by have := H.out.1.cx.ul _ (H.out.1.cx.vu _ H.out.1.cx.vq); have e2 : Mb.q { m with q := w.heap.size } = w.heap.size := rfl; omega
      have rd := R.out.1.rd (Rd.of_own O.out.1) hq1
      obtain ⟨b, o, x, rfl, _, _, hx, hc⟩ := ii_cell rd hlt
      have hxm : x ∈ l0 := List.mem_of_getElem? hx
      have hxi := H.out.2.2.2.1 x hxm
      have htk : l0.take (j + 1) = l0.take j ++ [x] := by rw [List.take_add_one, hx]; rfl
      have hcx : CX fb wr p (fun b => V b ∨ b = w.heap.size) (fun b => U b ∨ b = w.heap.size) (C.begins.knowL (l0.take j)) { m with q := w.heap.size } := by
        rw [knowL_eta]
        exact (H.out.1.cx.below O.out.2.1).remap R.out.1 R.out.2
      have hok : (C.begins.knowL (l0.take j)).Ok k := H.out.2.1.begins.knowL fun y hy => H.out.2.2.2.1 y (List.mem_of_mem_take hy)
      obtain ⟨Cj, hCj⟩ : ∃ Cj, C.begins.knowL (l0.take j) = Cj := ⟨_, rfl⟩
      rw [hCj] at hcx hok
      have hlast := hok.last
      have hof := of_any x hcx.drew (hcx.fit hok) hok.may (by unfold I64; omega) (by omega) (by omega)
      have c16 : ∀ W, Below wr.heap.size wr W → W.cell? ⟨p, 16, none⟩ = some (.map (some w.heap.size)) := fun W hb => (hcx.below hb).bx.c 16
      have Hof := Lib.hid hof
      have FF := Lib.hid c16
      have HC := Lib.hid (And.intro hcx (And.intro hxi (And.intro htk hCj)))
      clear rd hxm hxi htk hcx hok hCj hlast hof hx c16
      go_upto_region 5 with (fail)
      refine wp_region_S 8 (fun W => Below wr.heap.size wr W) (.take 0 (.take 1 (.take 2 (.take 3 (.take 4 (.take 5 (.take 6 (.one 7 (.one 8 (.nil)))))))))) (by kernel_rfl) (Below.refl _ _).drew (fun _ _ _ _ h => h) (fun hS => ?_)
      repeat (first
        | (refine wpS_take (v := ?_) rfl rfl (by rfl) ?_ ?_; rotate_left; (intro W hW; have hf := FF.out W hW; go_split_ands; go_simp; try with_reducible rfl); try simp only [Act.put, List.setIfInBounds_toArray, List.set_cons_zero, List.set_cons_succ])
        | (refine wpS_skip rfl rfl (by rfl) ?_; try simp only [Act.put, List.setIfInBounds_toArray, List.set_cons_zero, List.set_cons_succ]))
      refine wpS_one rfl (by rfl) (fun K hK => ?_)
      go_simp
      go_at_call 107
      refine (Hof.out).mono ?_
      rintro e w3 ⟨rfl, hb3⟩
      have hb3' : Below wr.heap.size wr w3 := (Below.refl _ _).drew.trans hb3
      obtain ⟨w4, hrun, hp4, hg4⟩ := (HC.out.1.below hb3').pm.put HC.out.2.1 (Cj.of x)
      unfold peV at hrun ⊢
      have HB3 := Lib.hid (And.intro hb3' (And.intro hp4 hg4))
      clear hb3 hp4 hg4
      refine hK (fun W => Below wr.heap.size wr W) _ _ (fun _ h => h) hb3' ?_
      clear hK K
      try simp only [Act.put, List.setIfInBounds_toArray, List.set_cons_zero, List.set_cons_succ]
      refine wpS_last rfl (by rfl) (fun K hK => ?_)
      go_simp
      refine hK _ _ ?_
      clear hK K
      try simp only [Act.put, List.setIfInBounds_toArray, List.set_cons_zero, List.set_cons_succ]
      refine wpS_nil ?_
      clear hb3' hS
      have hj4 : j < 7 := by have := O.out.2.2; have := H.out.2.2.2.2.1; omega
      go_wp2_with fail
      go_roundg (n0 - (j + 1))
      case measure => have := Hm.out; omega
      case rel =>
        refine ⟨j + 1, rfl, by omega, rfl, R.out.1.trans ((Kept.of_new HB3.out.1).grown HB3.out.2.2 fun b e => by injection e with e; exact e.symm) fun b _ e => e, ?_⟩
        rw [HC.out.2.2.1, knowL_snoc, HC.out.2.2.2]
        exact HB3.out.2.1
    · have hltI : decide ((j : Int) < (n0 : Int)) = false := decide_eq_false (by omega)
      obtain rfl : j = n0 := by omega
      have e1 : l0.take j = l0 := List.take_of_length_le (by have := O.out.2.2; omega)
      have hR := R.out
      rw [e1] at hR
      have hto : CTo fb w p V U (C.begins.knowL l0) wr (fun b => V b ∨ b = w.heap.size) (fun b => U b ∨ b = w.heap.size) { m with q := w.heap.size } := by
        rw [knowL_eta]
        exact (H.out.1.below O.out.2.1).remap hR.1 hR.2
      have hok : (C.begins.knowL l0).Ok k := H.out.2.1.begins.knowL H.out.2.2.2.1
      have hen : Env fb wr := by
        have hh := hhe.out
        exact hh.2.kept hto.kept hh.1.vf
      have hhl : ∀ C : Cr, (C.begins.knowL l0).s = C.s := fun C => by rw [knowL_eta]; rfl
      have es := hhl C
      obtain ⟨Ck, hCk⟩ : ∃ Ck, C.begins.knowL l0 = Ck := ⟨_, rfl⟩
      have hle := H.out.2.2.2.2.2.1
      rw [hCk] at hto hok es hle
      obtain ⟨M, hM⟩ : ∃ M : Mb, M = { m with q := w.heap.size } := ⟨_, rfl⟩
      rw [← hM] at hto
      have hcx := hto.cx
      have hfit := hcx.fit hok
      obtain ⟨s1, s2, s3, s4, s5, s6, s7⟩ := hcx.s_eq
      have hadd := fun W (hb : Below wr.heap.size wr W) => add_all M.s.b M.s.t C.s.tm 0 M.s.A M.s.n M.s.c M.s.L none 0 0 [] W (hcx.below hb).at_.l.any (hcx.below hb).at_.dat (hcx.at_.wel hfit) (fun x hx => (hfit.w x hx).2) (hcx.lm hok.may) Rd.none_
      have er : addL M.s.b M.s.t (M.s.L.map en) C.s.tm 0 [] = addL C.s.b C.s.t C.s.l C.s.tm 0 [] := by rw [s3, s4, s5, es]
      rw [er] at hadd
      obtain ⟨r, hr⟩ : ∃ r, addL C.s.b C.s.t C.s.l C.s.tm 0 [] = r := ⟨_, rfl⟩
      have hgrow : r.1 = 0 → (Ck.withLog r.2).Ok k ∧ r.2 = Ck.s.l ++ [⟨lstA Ck.s.b Ck.s.l + 1, Ck.s.tm, 0, []⟩] := fun h0 => by
        have h1 : (addL Ck.s.b Ck.s.t Ck.s.l Ck.s.tm 0 []).1 = 0 := by rw [es, hr]; exact h0
        have h2 := hok.grow (kd := 0) (d := []) (by decide) h1
        have h3 := (addL_may (kd := 0) (d := []) hok.may (by decide) h1).2
        rw [es, hr] at h2 h3
        exact ⟨h2, by rw [es]; exact h3⟩
      rw [hr] at hadd hle
      have F : ∀ W, Below wr.heap.size wr W → W.cell? ⟨p, 2, none⟩ = some (.int .i64 M.s.b) ∧ W.cell? ⟨p, 3, none⟩ = some (.int .i64 M.s.t) ∧ W.cell? ⟨p, 4, none⟩ = some (.slice M.s.A M.s.n M.s.c) ∧ W.cell? ⟨p, 0, none⟩ = some (.int .i64 C.s.tm) := fun W hb =>
        ⟨(hcx.below hb).bx.c 2, (hcx.below hb).bx.c 3, (hcx.below hb).bx.c 4, by rw [← es, ← s1]; exact (hcx.below hb).bx.c 0⟩
      have FF := Lib.hid F
      have Hadd := Lib.hid hadd
      have HT := Lib.hid (And.intro hto (And.intro hok (And.intro hen (And.intro hgrow (And.intro hle (And.intro s3 (And.intro s4 (And.intro s5 es))))))))
      clear hR R hto hok hen hhl es hCk hle hM hcx hfit s1 s2 s3 s4 s5 s6 s7 hadd er hr hgrow F O Hot HW e1 Hm
      go_upto_region 7 with (fail)
      by_cases h0 : r.1 = 0
      · refine wp_region_S 16 (fun W => Below wr.heap.size wr W) (.take 0 (.take 1 (.take 2 (.take 3 (.take 4 (.take 5 (.take 6 (.take 7 (.take 8 (.take 9 (.two 10 14 (.take 11 (.take 12 (.take 13 (.one 14 (.one 15 (.one 16 (.nil))))))) (.one 10 (.take 11 (.take 12 (.take 13 (.one 15 (.one 16 (.nil)))))))))))))))))) (by kernel_rfl) (Below.refl _ _).drew (fun _ _ _ _ h => h) (fun hS => ?_)
        repeat (first
          | (refine wpS_take (v := ?_) rfl rfl (by rfl) ?_ ?_; rotate_left; (intro W hW; have hf := FF.out W hW; go_split_ands; go_simp; try with_reducible rfl); try simp only [Act.put, List.setIfInBounds_toArray, List.set_cons_zero, List.set_cons_succ])
          | (refine wpS_skip rfl rfl (by rfl) ?_; try simp only [Act.put, List.setIfInBounds_toArray, List.set_cons_zero, List.set_cons_succ]))
        refine wpS_two rfl rfl (by rfl) (by rfl) (fun K hK => ?_) (fun K hK => ?_)
        · go_simp
          go_at_call 54
          refine (Hadd.out _ (Below.refl _ _).drew).mono ?_
          intro e w5 h5
          unfold AddAll at h5
          rw [if_pos h0] at h5
          obtain ⟨A5, c5, L5, rfl, r5, d5, m5, k5, k6, hb5⟩ := h5
          have hS5 : Below wr.heap.size wr w5 := ((Below.refl _ _).drew).trans (hb5.mono (Nat.le_refl _))
          have N5 := Lib.hid (And.intro r5 (And.intro d5 (And.intro m5 (And.intro k5 k6))))
          clear r5 d5 m5
          clear hb5
          refine hK (fun W => Below wr.heap.size wr W) _ _ (fun _ h => h) hS5 ?_
          clear hK K
          try simp only [Act.put, List.setIfInBounds_toArray, List.set_cons_zero, List.set_cons_succ]
          repeat (first
            | (refine wpS_take (v := ?_) rfl rfl (by rfl) ?_ ?_; rotate_left; (intro W hW; have hf := FF.out W hW; go_split_ands; go_simp; try with_reducible rfl); try simp only [Act.put, List.setIfInBounds_toArray, List.set_cons_zero, List.set_cons_succ])
            | (refine wpS_skip rfl rfl (by rfl) ?_; try simp only [Act.put, List.setIfInBounds_toArray, List.set_cons_zero, List.set_cons_succ]))
          refine wpS_one rfl (by rfl) (fun K hK => ?_)
          go_simp
          obtain ⟨va, hva⟩ : ∃ va, va = World.alloc w5 (.cells #[.int .i64 0, .int .i64 0, .slice none 0 0] 38) := ⟨_, rfl⟩
          obtain ⟨gx, hgx⟩ : ∃ g, g = (World.heap w5).size := ⟨_, rfl⟩
          have bxa : Bx va gx #[.int .i64 0, .int .i64 0, .slice none 0 0] := by subst hva hgx; exact Bx.new _ _ _ rfl
          have hbva : Below wr.heap.size wr va := by subst hva; exact (hS5).alloc (hS5).size _
          have hzx : wr.heap.size ≤ gx ∧ gx < va.heap.size ∧ (World.heap w5).size = gx := by subst hva hgx; exact ⟨(hS5).size, by simp, rfl⟩
          have hal : Below gx w5 va := by subst hva hgx; exact (Below.refl _ _).alloc (Nat.le_refl _) _
          rw [← hva]
          try rw [← hgx]
          clear hva hgx
          refine hK (fun W => Below wr.heap.size wr W) _ _ (fun _ h => h) hbva ?_
          clear hK K
          try simp only [Act.put, List.setIfInBounds_toArray, List.set_cons_zero, List.set_cons_succ]
          obtain ⟨q0, q1, q2, p0, p1, p2⟩ := bxa.c3
          refine wpS_one rfl (by rfl) (fun K hK => ?_)
          go_simp
          obtain ⟨W7, hW7⟩ : ∃ W7, W7 = ((va.setCell ⟨gx, 0, none⟩ (.int .i64 M.s.b)).setCell ⟨gx, 1, none⟩ (.int .i64 M.s.t)).setCell ⟨gx, 2, none⟩ (.slice A5 (M.s.n + 1) c5) := ⟨_, rfl⟩
          have b7 : Bx W7 gx #[.int .i64 M.s.b, .int .i64 M.s.t, .slice A5 (M.s.n + 1) c5] := by subst hW7; exact ((bxa.set 0 _).set 1 _).set 2 _
          have hb7 : Below wr.heap.size wr W7 := by subst hW7; exact ((hbva.setCell (p := ⟨gx, 0, none⟩) hzx.1 _).setCell (p := ⟨gx, 1, none⟩) hzx.1 _).setCell (p := ⟨gx, 2, none⟩) hzx.1 _
          have hk5 : ∀ b, wr.drew.heap.size ≤ b → b < w5.heap.size → W7.heap[b]? = w5.heap[b]? := fun b _ hb => by
            have hne : b ≠ gx := by have := hzx.2.2; omega
            subst hW7
            iterate 3 refine (Below.heap_setCell _ _ _ b hne).trans ?_
            exact hal.block b (by have := hzx.2.2; omega)
          have r7 : Rd W7 (wr.heap.size ≤ ·) 4 A5 (M.s.n + 1) (flat ecell L5) := (N5.out.1.keep (w' := W7) (fun b hb hl => hk5 b hb hl)).mono fun b hb => (hb : wr.heap.size ≤ b)
          have d7 : ∀ y ∈ L5, Rd W7 (wr.heap.size ≤ ·) 1 y.A y.n (bs y.d) ∧ y.n ≤ y.m ∧ y.m ≤ maxLen := fun y hy => ⟨((N5.out.2.1 y hy).1.keep (w' := W7) (fun b hb hl => hk5 b hb hl)).mono fun b hb => (hb : wr.heap.size ≤ b), (N5.out.2.1 y hy).2⟩
          rw [← hW7]
          have K7 := Lib.hid (And.intro b7 hb7)
          have N7 := Lib.hid (And.intro r7 d7)
          clear r7 d7
          clear hk5
          clear hW7 b7 hb7
          refine hK (fun W => Below wr.heap.size wr W) _ _ (fun _ h => h) K7.out.2 ?_
          clear hK K q0 q1 q2 p0 p1 p2
          try simp only [Act.put, List.setIfInBounds_toArray, List.set_cons_zero, List.set_cons_succ]
          refine wpS_last rfl (by rfl) (fun K hK => ?_)
          go_simp
          refine hK _ _ ?_
          clear hK K
          try simp only [Act.put, List.setIfInBounds_toArray, List.set_cons_zero, List.set_cons_succ]
          refine wpS_nil ?_
          have hu7 : ∀ b, wr.heap.size ≤ b → ¬ (U b ∨ b = w.heap.size) := fun b hb hu => by have := HT.out.1.cx.ul b hu; omega
          have hto8 := (HT.out.1.below K7.out.2).logged (A := A5) (n := M.s.n + 1) (c := c5) (L := L5) (N7.out.1.mono hu7) (fun y hy => ⟨(N7.out.2 y hy).1.mono hu7, (N7.out.2 y hy).2⟩) ⟨N5.out.2.2.2.1, N5.out.2.2.2.2⟩
          have e5 : L5.map en = r.2 := by
            rw [(HT.out.2.2.2.1 h0).2, N5.out.2.2.1, HT.out.2.2.2.2.2.1, HT.out.2.2.2.2.2.2.2.1, HT.out.2.2.2.2.2.2.2.2]
          rw [e5] at hto8
          have q2 : W7.cell? ⟨p, 2, none⟩ = some (.int .i64 M.s.b) := (HT.out.1.below K7.out.2).cx.bx.c 2
          have q3 : W7.cell? ⟨p, 3, none⟩ = some (.int .i64 M.s.t) := (HT.out.1.below K7.out.2).cx.bx.c 3
          have q4 : W7.cell? ⟨p, 4, none⟩ = some (.slice M.s.A M.s.n M.s.c) := (HT.out.1.below K7.out.2).cx.bx.c 4
          have p2 := (HT.out.1.below K7.out.2).cx.bx.f 2
          have p3 := (HT.out.1.below K7.out.2).cx.bx.f 3
          have p4 := (HT.out.1.below K7.out.2).cx.bx.f 4
          obtain ⟨z0, z1, z2, _, _, _⟩ := K7.out.1.c3
          obtain ⟨W8, hW8⟩ : ∃ W8, W8 = ((W7.setCell ⟨p, 2, none⟩ (.int .i64 M.s.b)).setCell ⟨p, 3, none⟩ (.int .i64 M.s.t)).setCell ⟨p, 4, none⟩ (.slice A5 (M.s.n + 1) c5) := ⟨_, rfl⟩
          rw [← hW8] at hto8
          have hok8 : (Ck.withLog r.2).Ok k := (HT.out.2.2.2.1 h0).1
          have hen8 : Env fb W8 := by have hh := hhe.out; exact hh.2.kept hto8.kept hh.1.vf
          have hal8 := sendAll_any hto8.cx hok8 hen8
          have T8 := Lib.hid (And.intro hto8 (And.intro hok8 hen8))
          have Hal8 := Lib.hid hal8
          clear hto8 hok8 hen8 hal8 e5 hu7
          go_upto_region 12 with (fail)
          rw [← hW8]
          clear q2 q3 q4 p2 p3 p4 z0 z1 z2 hW8
          go_wp2_with fail
          refine Hal8.out.mono ?_
          intro e w9 h9
          obtain ⟨A9, n9, c9, X9, rfl, r9, m9, x9, k9⟩ := h9
          have hwid := T8.out.1.cx.widen x9 k9 (N := fun b => A9.map (·.block) = some b) (own_lt r9.ow) (sendAll_keep _).1 (sendAll_keep _).2
          have hen9 : Env fb w9 := T8.out.2.2.kept k9 fun b e => by rw [e]; exact T8.out.1.cx.vf _ T8.out.1.cx.vq
          have hadv := advance_any hwid T8.out.2.1.sendAll hen9
          have h9n : n9 ≤ 7 := by
            have h1 := r9.len
            have h2 := congrArg List.length m9
            rw [List.length_map, h1, sendAll_len] at h2
            have := others_len T8.out.2.1.may
            omega
          have K9 := Lib.hid (And.intro r9 (And.intro m9 (And.intro x9 k9)))
          have Hadv := Lib.hid hadv
          clear r9 m9 x9 k9 hwid hen9 hadv
          go_wp2_with fail
          refine Hadv.out.mono ?_
          intro e w10 h10
          obtain ⟨A10, n10, c10, X10, V10, U10, M10, rfl, r10, m10, u10, t10⟩ := h10
          have h10n : n10 ≤ 7 := by
            have h1 := r10.len
            have h2 := congrArg List.length m10
            rw [List.length_map, h1] at h2
            have := advance_len T8.out.2.1.sendAll
            omega
          have r9' : Rm w10 W8.heap.size A9 n9 c9 X9 := K9.out.1.kept t10.kept fun b hb => T8.out.1.cx.ul b (T8.out.1.cx.vu b hb)
          have hz10 : W8.heap.size ≤ w10.heap.size := Nat.le_trans K9.out.2.2.2.size t10.kept.size
          have K10 := Lib.hid (And.intro r10 (And.intro m10 (And.intro u10 (And.intro t10 r9'))))
          clear r10 m10 u10 t10 r9'
          go_wp2_with (at_builtin; refine wpList_append_any _ Tryz.underlying54 msg_elem rfl (by omega) rfl rfl rfl K10.out.2.2.2.2.ow rfl (Rd.of_own K10.out.1.ow).any (mcell_one X10) (by omega) hz10 rfl rfl ?_; intro A11 c11 w11 hown11 hg11 hat11)
          go_ret
          obtain ⟨j1, j2, j3⟩ := join_out T8.out.1.cx K9.out.1 K9.out.2.2.2 K10.out.1 K10.out.2.2.1 K10.out.2.2.2.1 hown11 hg11 hat11
          rw [HT.out.2.2.2.2.1, if_pos h0]
          refine OutPost.up T8.out.1 ⟨A11, n9 + n10, c11, X9 ++ X10, V10, U10, M10, rfl, j1, ?_, j2, j3⟩
          rw [List.map_append, K9.out.2.1, K10.out.2.1]
          rfl
        · go_simp
          obtain ⟨va, hva⟩ : ∃ va, va = (World.alloc wr (.cells #[.int .i64 0, .int .i64 0, .slice none 0 0] 38)).drew := ⟨_, rfl⟩
          obtain ⟨gx, hgx⟩ : ∃ g, g = wr.heap.size := ⟨_, rfl⟩
          have bxa : Bx va gx #[.int .i64 0, .int .i64 0, .slice none 0 0] := by subst hva hgx; exact (Bx.new _ _ _ rfl).drew
          have hbva : Below wr.heap.size wr va := by subst hva; exact ((Below.refl _ _).alloc (Nat.le_refl _) _).drew
          have hzx : wr.heap.size ≤ gx ∧ gx < va.heap.size ∧ wr.heap.size = gx := by subst hva hgx; exact ⟨Nat.le_refl _, by simp [World.drew], rfl⟩
          try rw [← hgx]
          rw [← hva]
          clear hva hgx
          refine hK (fun W => Below wr.heap.size wr W) _ _ (fun _ h => h) hbva ?_
          clear hK K
          try simp only [Act.put, List.setIfInBounds_toArray, List.set_cons_zero, List.set_cons_succ]
          refine wpS_one rfl (by rfl) (fun K hK => ?_)
          go_simp
          go_at_call 54
          refine (Hadd.out _ hbva).mono ?_
          intro e w5 h5
          unfold AddAll at h5
          rw [if_pos h0] at h5
          obtain ⟨A5, c5, L5, rfl, r5, d5, m5, k5, k6, hb5⟩ := h5
          have hS5 : Below wr.heap.size wr w5 := (hbva).trans (hb5.mono hbva.size)
          have bx5 := bxa.below hb5
          have N5 := Lib.hid (And.intro r5 (And.intro d5 (And.intro m5 (And.intro k5 k6))))
          clear r5 d5 m5
          clear hb5
          refine hK (fun W => Below wr.heap.size wr W) _ _ (fun _ h => h) hS5 ?_
          clear hK K
          try simp only [Act.put, List.setIfInBounds_toArray, List.set_cons_zero, List.set_cons_succ]
          repeat (first
            | (refine wpS_take (v := ?_) rfl rfl (by rfl) ?_ ?_; rotate_left; (intro W hW; have hf := FF.out W hW; go_split_ands; go_simp; try with_reducible rfl); try simp only [Act.put, List.setIfInBounds_toArray, List.set_cons_zero, List.set_cons_succ])
            | (refine wpS_skip rfl rfl (by rfl) ?_; try simp only [Act.put, List.setIfInBounds_toArray, List.set_cons_zero, List.set_cons_succ]))
          obtain ⟨q0, q1, q2, p0, p1, p2⟩ := bx5.c3
          refine wpS_one rfl (by rfl) (fun K hK => ?_)
          go_simp
          obtain ⟨W7, hW7⟩ : ∃ W7, W7 = ((w5.setCell ⟨gx, 0, none⟩ (.int .i64 M.s.b)).setCell ⟨gx, 1, none⟩ (.int .i64 M.s.t)).setCell ⟨gx, 2, none⟩ (.slice A5 (M.s.n + 1) c5) := ⟨_, rfl⟩
          have b7 : Bx W7 gx #[.int .i64 M.s.b, .int .i64 M.s.t, .slice A5 (M.s.n + 1) c5] := by subst hW7; exact ((bx5.set 0 _).set 1 _).set 2 _
          have hb7 : Below wr.heap.size wr W7 := by subst hW7; exact ((hS5.setCell (p := ⟨gx, 0, none⟩) hzx.1 _).setCell (p := ⟨gx, 1, none⟩) hzx.1 _).setCell (p := ⟨gx, 2, none⟩) hzx.1 _
          have hk5 : ∀ b, va.heap.size ≤ b → W7.heap[b]? = w5.heap[b]? := fun b hb => by
            have hne : b ≠ gx := by have := hzx.2.1; omega
            subst hW7
            iterate 3 refine (Below.heap_setCell _ _ _ b hne).trans ?_
            rfl
          have r7 : Rd W7 (wr.heap.size ≤ ·) 4 A5 (M.s.n + 1) (flat ecell L5) := (N5.out.1.keep (w' := W7) (fun b hb _ => hk5 b hb)).mono fun b hb => (by have := hbva.size; omega : wr.heap.size ≤ b)
          have d7 : ∀ y ∈ L5, Rd W7 (wr.heap.size ≤ ·) 1 y.A y.n (bs y.d) ∧ y.n ≤ y.m ∧ y.m ≤ maxLen := fun y hy => ⟨((N5.out.2.1 y hy).1.keep (w' := W7) (fun b hb _ => hk5 b hb)).mono fun b hb => (by have := hbva.size; omega : wr.heap.size ≤ b), (N5.out.2.1 y hy).2⟩
          rw [← hW7]
          have K7 := Lib.hid (And.intro b7 hb7)
          have N7 := Lib.hid (And.intro r7 d7)
          clear r7 d7
          clear hk5
          clear hW7 b7 hb7
          refine hK (fun W => Below wr.heap.size wr W) _ _ (fun _ h => h) K7.out.2 ?_
          clear hK K q0 q1 q2 p0 p1 p2
          try simp only [Act.put, List.setIfInBounds_toArray, List.set_cons_zero, List.set_cons_succ]
          refine wpS_last rfl (by rfl) (fun K hK => ?_)
          go_simp
          refine hK _ _ ?_
          clear hK K
          try simp only [Act.put, List.setIfInBounds_toArray, List.set_cons_zero, List.set_cons_succ]
          refine wpS_nil ?_
          have hu7 : ∀ b, wr.heap.size ≤ b → ¬ (U b ∨ b = w.heap.size) := fun b hb hu => by have := HT.out.1.cx.ul b hu; omega
          have hto8 := (HT.out.1.below K7.out.2).logged (A := A5) (n := M.s.n + 1) (c := c5) (L := L5) (N7.out.1.mono hu7) (fun y hy => ⟨(N7.out.2 y hy).1.mono hu7, (N7.out.2 y hy).2⟩) ⟨N5.out.2.2.2.1, N5.out.2.2.2.2⟩
          have e5 : L5.map en = r.2 := by
            rw [(HT.out.2.2.2.1 h0).2, N5.out.2.2.1, HT.out.2.2.2.2.2.1, HT.out.2.2.2.2.2.2.2.1, HT.out.2.2.2.2.2.2.2.2]
          rw [e5] at hto8
          have q2 : W7.cell? ⟨p, 2, none⟩ = some (.int .i64 M.s.b) := (HT.out.1.below K7.out.2).cx.bx.c 2
          have q3 : W7.cell? ⟨p, 3, none⟩ = some (.int .i64 M.s.t) := (HT.out.1.below K7.out.2).cx.bx.c 3
          have q4 : W7.cell? ⟨p, 4, none⟩ = some (.slice M.s.A M.s.n M.s.c) := (HT.out.1.below K7.out.2).cx.bx.c 4
          have p2 := (HT.out.1.below K7.out.2).cx.bx.f 2
          have p3 := (HT.out.1.below K7.out.2).cx.bx.f 3
          have p4 := (HT.out.1.below K7.out.2).cx.bx.f 4
          obtain ⟨z0, z1, z2, _, _, _⟩ := K7.out.1.c3
          obtain ⟨W8, hW8⟩ : ∃ W8, W8 = ((W7.setCell ⟨p, 2, none⟩ (.int .i64 M.s.b)).setCell ⟨p, 3, none⟩ (.int .i64 M.s.t)).setCell ⟨p, 4, none⟩ (.slice A5 (M.s.n + 1) c5) := ⟨_, rfl⟩
          rw [← hW8] at hto8
          have hok8 : (Ck.withLog r.2).Ok k := (HT.out.2.2.2.1 h0).1
          have hen8 : Env fb W8 := by have hh := hhe.out; exact hh.2.kept hto8.kept hh.1.vf
          have hal8 := sendAll_any hto8.cx hok8 hen8
          have T8 := Lib.hid (And.intro hto8 (And.intro hok8 hen8))
          have Hal8 := Lib.hid hal8
          clear hto8 hok8 hen8 hal8 e5 hu7
          go_upto_region 12 with (fail)
          rw [← hW8]
          clear q2 q3 q4 p2 p3 p4 z0 z1 z2 hW8
          go_wp2_with fail
          refine Hal8.out.mono ?_
          intro e w9 h9
          obtain ⟨A9, n9, c9, X9, rfl, r9, m9, x9, k9⟩ := h9
          have hwid := T8.out.1.cx.widen x9 k9 (N := fun b => A9.map (·.block) = some b) (own_lt r9.ow) (sendAll_keep _).1 (sendAll_keep _).2
          have hen9 : Env fb w9 := T8.out.2.2.kept k9 fun b e => by rw [e]; exact T8.out.1.cx.vf _ T8.out.1.cx.vq
          have hadv := advance_any hwid T8.out.2.1.sendAll hen9
          have h9n : n9 ≤ 7 := by
            have h1 := r9.len
            have h2 := congrArg List.length m9
            rw [List.length_map, h1, sendAll_len] at h2
            have := others_len T8.out.2.1.may
            omega
          have K9 := Lib.hid (And.intro r9 (And.intro m9 (And.intro x9 k9)))
          have Hadv := Lib.hid hadv
          clear r9 m9 x9 k9 hwid hen9 hadv
          go_wp2_with fail
          refine Hadv.out.mono ?_
          intro e w10 h10
          obtain ⟨A10, n10, c10, X10, V10, U10, M10, rfl, r10, m10, u10, t10⟩ := h10
          have h10n : n10 ≤ 7 := by
            have h1 := r10.len
            have h2 := congrArg List.length m10
            rw [List.length_map, h1] at h2
            have := advance_len T8.out.2.1.sendAll
            omega
          have r9' : Rm w10 W8.heap.size A9 n9 c9 X9 := K9.out.1.kept t10.kept fun b hb => T8.out.1.cx.ul b (T8.out.1.cx.vu b hb)
          have hz10 : W8.heap.size ≤ w10.heap.size := Nat.le_trans K9.out.2.2.2.size t10.kept.size
          have K10 := Lib.hid (And.intro r10 (And.intro m10 (And.intro u10 (And.intro t10 r9'))))
          clear r10 m10 u10 t10 r9'
          go_wp2_with (at_builtin; refine wpList_append_any _ Tryz.underlying54 msg_elem rfl (by omega) rfl rfl rfl K10.out.2.2.2.2.ow rfl (Rd.of_own K10.out.1.ow).any (mcell_one X10) (by omega) hz10 rfl rfl ?_; intro A11 c11 w11 hown11 hg11 hat11)
          go_ret
          obtain ⟨j1, j2, j3⟩ := join_out T8.out.1.cx K9.out.1 K9.out.2.2.2 K10.out.1 K10.out.2.2.1 K10.out.2.2.2.1 hown11 hg11 hat11
          rw [HT.out.2.2.2.2.1, if_pos h0]
          refine OutPost.up T8.out.1 ⟨A11, n9 + n10, c11, X9 ++ X10, V10, U10, M10, rfl, j1, ?_, j2, j3⟩
          rw [List.map_append, K9.out.2.1, K10.out.2.1]
          rfl
      · refine wp_region_S 16 (fun W => Below wr.heap.size wr W) (.take 0 (.take 1 (.take 2 (.take 3 (.take 4 (.take 5 (.take 6 (.take 7 (.take 8 (.take 9 (.two 10 14 (.take 11 (.take 12 (.take 13 (.one 14 (.one 15 (.one 16 (.nil))))))) (.one 10 (.take 11 (.take 12 (.take 13 (.one 15 (.one 16 (.nil)))))))))))))))))) (by kernel_rfl) (Below.refl _ _).drew (fun _ _ _ _ h => h) (fun hS => ?_)
        repeat (first
          | (refine wpS_take (v := ?_) rfl rfl (by rfl) ?_ ?_; rotate_left; (intro W hW; have hf := FF.out W hW; go_split_ands; go_simp; try with_reducible rfl); try simp only [Act.put, List.setIfInBounds_toArray, List.set_cons_zero, List.set_cons_succ])
          | (refine wpS_skip rfl rfl (by rfl) ?_; try simp only [Act.put, List.setIfInBounds_toArray, List.set_cons_zero, List.set_cons_succ]))
        refine wpS_two rfl rfl (by rfl) (by rfl) (fun K hK => ?_) (fun K hK => ?_)
        · go_simp
          go_at_call 54
          refine (Hadd.out _ (Below.refl _ _).drew).mono ?_
          intro e w5 h5
          unfold AddAll at h5
          rw [if_neg h0] at h5
          obtain ⟨rfl, hb5⟩ := h5
          have hS5 : Below wr.heap.size wr w5 := ((Below.refl _ _).drew).trans (hb5.mono (Nat.le_refl _))
          clear hb5
          refine hK (fun W => Below wr.heap.size wr W) _ _ (fun _ h => h) hS5 ?_
          clear hK K
          try simp only [Act.put, List.setIfInBounds_toArray, List.set_cons_zero, List.set_cons_succ]
          repeat (first
            | (refine wpS_take (v := ?_) rfl rfl (by rfl) ?_ ?_; rotate_left; (intro W hW; have hf := FF.out W hW; go_split_ands; go_simp; try with_reducible rfl); try simp only [Act.put, List.setIfInBounds_toArray, List.set_cons_zero, List.set_cons_succ])
            | (refine wpS_skip rfl rfl (by rfl) ?_; try simp only [Act.put, List.setIfInBounds_toArray, List.set_cons_zero, List.set_cons_succ]))
          refine wpS_one rfl (by rfl) (fun K hK => ?_)
          go_simp
          obtain ⟨va, hva⟩ : ∃ va, va = World.alloc w5 (.cells #[.int .i64 0, .int .i64 0, .slice none 0 0] 38) := ⟨_, rfl⟩
          obtain ⟨gx, hgx⟩ : ∃ g, g = (World.heap w5).size := ⟨_, rfl⟩
          have bxa : Bx va gx #[.int .i64 0, .int .i64 0, .slice none 0 0] := by subst hva hgx; exact Bx.new _ _ _ rfl
          have hbva : Below wr.heap.size wr va := by subst hva; exact (hS5).alloc (hS5).size _
          have hzx : wr.heap.size ≤ gx ∧ gx < va.heap.size ∧ (World.heap w5).size = gx := by subst hva hgx; exact ⟨(hS5).size, by simp, rfl⟩
          have hal : Below gx w5 va := by subst hva hgx; exact (Below.refl _ _).alloc (Nat.le_refl _) _
          rw [← hva]
          try rw [← hgx]
          clear hva hgx
          refine hK (fun W => Below wr.heap.size wr W) _ _ (fun _ h => h) hbva ?_
          clear hK K
          try simp only [Act.put, List.setIfInBounds_toArray, List.set_cons_zero, List.set_cons_succ]
          obtain ⟨q0, q1, q2, p0, p1, p2⟩ := bxa.c3
          refine wpS_one rfl (by rfl) (fun K hK => ?_)
          go_simp
          obtain ⟨W7, hW7⟩ : ∃ W7, W7 = ((va.setCell ⟨gx, 0, none⟩ (.int .i64 0)).setCell ⟨gx, 1, none⟩ (.int .i64 0)).setCell ⟨gx, 2, none⟩ (.slice none 0 0) := ⟨_, rfl⟩
          have b7 : Bx W7 gx #[.int .i64 0, .int .i64 0, .slice none 0 0] := by subst hW7; exact ((bxa.set 0 _).set 1 _).set 2 _
          have hb7 : Below wr.heap.size wr W7 := by subst hW7; exact ((hbva.setCell (p := ⟨gx, 0, none⟩) hzx.1 _).setCell (p := ⟨gx, 1, none⟩) hzx.1 _).setCell (p := ⟨gx, 2, none⟩) hzx.1 _
          rw [← hW7]
          have K7 := Lib.hid (And.intro b7 hb7)
          clear hW7 b7 hb7
          refine hK (fun W => Below wr.heap.size wr W) _ _ (fun _ h => h) K7.out.2 ?_
          clear hK K q0 q1 q2 p0 p1 p2
          try simp only [Act.put, List.setIfInBounds_toArray, List.set_cons_zero, List.set_cons_succ]
          refine wpS_last rfl (by rfl) (fun K hK => ?_)
          go_simp
          refine hK _ _ ?_
          clear hK K
          try simp only [Act.put, List.setIfInBounds_toArray, List.set_cons_zero, List.set_cons_succ]
          refine wpS_nil ?_
          have hfo := follow_any 0 (HT.out.1.below K7.out.2).cx
          have Hfo := Lib.hid hfo
          clear hfo
          go_wp2_with fail
          refine Hfo.out.mono ?_
          rintro e w9 ⟨rfl, hto9⟩
          have T9 := Lib.hid hto9
          clear hto9
          go_wp2_with fail
          go_ret
          rw [HT.out.2.2.2.2.1, if_neg h0]
          exact outNil ((HT.out.1.below K7.out.2).trans T9.out)
        · go_simp
          obtain ⟨va, hva⟩ : ∃ va, va = (World.alloc wr (.cells #[.int .i64 0, .int .i64 0, .slice none 0 0] 38)).drew := ⟨_, rfl⟩
          obtain ⟨gx, hgx⟩ : ∃ g, g = wr.heap.size := ⟨_, rfl⟩
          have bxa : Bx va gx #[.int .i64 0, .int .i64 0, .slice none 0 0] := by subst hva hgx; exact (Bx.new _ _ _ rfl).drew
          have hbva : Below wr.heap.size wr va := by subst hva; exact ((Below.refl _ _).alloc (Nat.le_refl _) _).drew
          have hzx : wr.heap.size ≤ gx ∧ gx < va.heap.size ∧ wr.heap.size = gx := by subst hva hgx; exact ⟨Nat.le_refl _, by simp [World.drew], rfl⟩
          try rw [← hgx]
          rw [← hva]
          clear hva hgx
          refine hK (fun W => Below wr.heap.size wr W) _ _ (fun _ h => h) hbva ?_
          clear hK K
          try simp only [Act.put, List.setIfInBounds_toArray, List.set_cons_zero, List.set_cons_succ]
          refine wpS_one rfl (by rfl) (fun K hK => ?_)
          go_simp
          go_at_call 54
          refine (Hadd.out _ hbva).mono ?_
          intro e w5 h5
          unfold AddAll at h5
          rw [if_neg h0] at h5
          obtain ⟨rfl, hb5⟩ := h5
          have hS5 : Below wr.heap.size wr w5 := (hbva).trans (hb5.mono hbva.size)
          have bx5 := bxa.below hb5
          clear hb5
          refine hK (fun W => Below wr.heap.size wr W) _ _ (fun _ h => h) hS5 ?_
          clear hK K
          try simp only [Act.put, List.setIfInBounds_toArray, List.set_cons_zero, List.set_cons_succ]
          repeat (first
            | (refine wpS_take (v := ?_) rfl rfl (by rfl) ?_ ?_; rotate_left; (intro W hW; have hf := FF.out W hW; go_split_ands; go_simp; try with_reducible rfl); try simp only [Act.put, List.setIfInBounds_toArray, List.set_cons_zero, List.set_cons_succ])
            | (refine wpS_skip rfl rfl (by rfl) ?_; try simp only [Act.put, List.setIfInBounds_toArray, List.set_cons_zero, List.set_cons_succ]))
          obtain ⟨q0, q1, q2, p0, p1, p2⟩ := bx5.c3
          refine wpS_one rfl (by rfl) (fun K hK => ?_)
          go_simp
          obtain ⟨W7, hW7⟩ : ∃ W7, W7 = ((w5.setCell ⟨gx, 0, none⟩ (.int .i64 0)).setCell ⟨gx, 1, none⟩ (.int .i64 0)).setCell ⟨gx, 2, none⟩ (.slice none 0 0) := ⟨_, rfl⟩
          have b7 : Bx W7 gx #[.int .i64 0, .int .i64 0, .slice none 0 0] := by subst hW7; exact ((bx5.set 0 _).set 1 _).set 2 _
          have hb7 : Below wr.heap.size wr W7 := by subst hW7; exact ((hS5.setCell (p := ⟨gx, 0, none⟩) hzx.1 _).setCell (p := ⟨gx, 1, none⟩) hzx.1 _).setCell (p := ⟨gx, 2, none⟩) hzx.1 _
          rw [← hW7]
          have K7 := Lib.hid (And.intro b7 hb7)
          clear hW7 b7 hb7
          refine hK (fun W => Below wr.heap.size wr W) _ _ (fun _ h => h) K7.out.2 ?_
          clear hK K q0 q1 q2 p0 p1 p2
          try simp only [Act.put, List.setIfInBounds_toArray, List.set_cons_zero, List.set_cons_succ]
          refine wpS_last rfl (by rfl) (fun K hK => ?_)
          go_simp
          refine hK _ _ ?_
          clear hK K
          try simp only [Act.put, List.setIfInBounds_toArray, List.set_cons_zero, List.set_cons_succ]
          refine wpS_nil ?_
          have hfo := follow_any 0 (HT.out.1.below K7.out.2).cx
          have Hfo := Lib.hid hfo
          clear hfo
          go_wp2_with fail
          refine Hfo.out.mono ?_
          rintro e w9 ⟨rfl, hto9⟩
          have T9 := Lib.hid hto9
          clear hto9
          go_wp2_with fail
          go_ret
          rw [HT.out.2.2.2.2.1, if_neg h0]
          exact outNil ((HT.out.1.below K7.out.2).trans T9.out)
end Go.Proofs.YtmhaahcbmdhinaaGreatDoor

