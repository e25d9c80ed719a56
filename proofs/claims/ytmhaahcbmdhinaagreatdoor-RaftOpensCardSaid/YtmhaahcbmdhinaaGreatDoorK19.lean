/- The map of the others, in memory: a map from numbers to four numbers.
   Walk: slices.Clone of members (of c10's XDelC).
   Walk: (raft.Stored).own.
   Walk: a member, from what it kept: raft.New.
   Messages as they lie in memory; a member in memory. -/
import Derived.Test.YtmhaahcbmdhinaaGreatDoorK11
import Derived.Maps.RangeWalk
import Derived.Test.YtmhaahcbmdhinaaGreatDoorK2
import Derived.Test.YtmhaahcbmdhinaaGreatDoorK7
import Derived.Test.YtmhaahcbmdhinaaGreatDoorK10
import Derived.Test.YtmhaahcbmdhinaaGreatDoorK12
import Derived.Test.YtmhaahcbmdhinaaGreatDoorK18
namespace Go.Proofs.YtmhaahcbmdhinaaGreatDoor
open Go.RowKit
set_option linter.unusedVariables false
set_option linter.unusedSimpArgs false
def peV (p : Pe) : Value := .agg #[.int .i64 p.nx, .int .i64 p.mt, .int .i64 p.of, .int .i64 p.rd]
def peD (p : Pe) : DataW Unit := .agg [.lit (.int .i64 p.nx), .lit (.int .i64 p.mt), .lit (.int .i64 p.of), .lit (.int .i64 p.rd)]
def peL : List Value → Option (DataW Unit × List MemPlace)
  | [.int .i64 a, .int .i64 b, .int .i64 c, .int .i64 d] => some (peD ⟨a, b, c, d⟩, [])
  | _ => none
def peR : Value → Option (DataW Unit × List MemPlace)
  | .agg cs => peL cs.toList
  | _ => none
def pe0 : Pe := ⟨0, 0, 0, 0⟩
theorem peR_mk (p : Pe) : peR (peV p) = some (peD p, []) := rfl
theorem peR_inv {v : Value} {y : DataW Unit × List MemPlace} (h : peR v = some y) : ∃ p, v = peV p ∧ y = (peD p, []) := by
  unfold peR at h
  split at h
  · rename_i cs
    obtain ⟨l⟩ := cs
    dsimp only at h
    unfold peL at h
    split at h
    · rename_i a b c d
      injection h with h
      exact ⟨⟨a, b, c, d⟩, rfl, h.symm⟩
    · cases h
  · cases h
theorem peD_inj {p q : Pe} (h : peD p = peD q) : p = q := by
  unfold peD at h
  simp only [DataW.agg.injEq, List.cons.injEq, DataW.lit.injEq, Lit.int.injEq, and_true, true_and] at h
  cases p; cases q
  simp_all
theorem int_key : Maps.Keyed Tryz.prog 3 := Maps.int_keyed Tryz.underlying3
theorem pe_zero (W : World) : (zeroValue 130).run Tryz.prog W = .ok (peV pe0) W := by kernel_rfl
theorem i64_wf {z : Int} (h : I64 z) : (Lit.int .i64 z).wf = true := WalkArith.wf_i64 h
theorem nod_len : ∀ (m : Nat) (xs : List Int), xs.Pairwise (· ≠ ·) → (∀ x ∈ xs, 1 ≤ x ∧ x ≤ (m : Int)) → xs.length ≤ m
  | 0, xs, _, h => by
    cases xs with
    | nil => exact Nat.le_refl _
    | cons x r => have := h x (by simp); omega
  | m + 1, xs, hp, h => by
    by_cases hm : ((m : Int) + 1) ∈ xs
    · obtain ⟨a, b, rfl⟩ := List.append_of_mem hm
      rw [List.pairwise_append, List.pairwise_cons] at hp
      obtain ⟨h1, ⟨h2, h3⟩, h4⟩ := hp
      have := nod_len m (a ++ b) (List.pairwise_append.2 ⟨h1, h3, fun x hx y hy => h4 x hx y (List.mem_cons_of_mem _ hy)⟩) (fun x hx => by
        rcases List.mem_append.1 hx with hx | hx
        · have k1 := h x (by simp [hx])
          have k2 := h4 x hx ((m : Int) + 1) (by simp)
          exact ⟨k1.1, by have := k1.2; omega⟩
        · have k1 := h x (by simp [hx])
          have k2 := h2 x hx
          exact ⟨k1.1, by have := k1.2; omega⟩)
      simp at this ⊢
      omega
    · have := nod_len m xs hp fun x hx => ⟨(h x hx).1, by
        have k1 := (h x hx).2
        have k2 : x ≠ (m : Int) + 1 := fun e => hm (e ▸ hx)
        omega⟩
      omega
/-- What a map reads as, as a function. -/
structure PmD (D : DataW Unit) (f : Int → Option Pe) : Prop where
  at_ : ∀ who z, D.atKey (.int .i64 who) z = (f who).elim z peD
  has_ : ∀ who, Maps.has D (.int .i64 who) = (f who).isSome
  key : ∀ who, (f who).isSome = true → 1 ≤ who ∧ who ≤ 64
  lit : ∀ kl, Maps.has D kl = true → ∃ who, kl = .int .i64 who
theorem PmD.size {D : DataW Unit} {f : Int → Option Pe} (h : PmD D f) (he : ∃ es, D = .map es ∧ es.Pairwise (fun p q => p.1 ≠ q.1) ∧ ∀ p ∈ es, WideAt.IsKeyLit p.1) : Maps.size D ≤ 64 := by
  obtain ⟨es, rfl, hp, hkl⟩ := he
  have hk : ∀ p ∈ es, ∃ who, p.1 = .int .i64 who ∧ 1 ≤ who ∧ who ≤ 64 := fun p hp' => by
    have hh : Maps.has (.map es) p.1 = true := by
      rw [Maps.has_eq]
      exact List.any_eq_true.2 ⟨p, hp', WideAt.sameKey_self (hkl p hp')⟩
    obtain ⟨who, e⟩ := h.lit p.1 hh
    exact ⟨who, e, h.key who (by rw [← h.has_, ← e]; exact hh)⟩
  have := nod_len 64 (es.map fun p => match p.1 with | .int _ z => z | _ => 0) (by
    rw [List.pairwise_map]
    refine List.Pairwise.imp_of_mem ?_ hp
    intro p q h1 h2 hne
    obtain ⟨a, ea, _⟩ := hk p h1
    obtain ⟨b, eb, _⟩ := hk q h2
    rw [ea, eb] at hne ⊢
    exact fun e => hne (by rw [show a = b from e])) (by
    intro x hx
    obtain ⟨p, h1, rfl⟩ := List.mem_map.1 hx
    obtain ⟨a, ea, h2⟩ := hk p h1
    rw [ea]
    exact h2)
  rw [Maps.size_eq]
  simpa using this
/-- Block b is the map f. -/
def Pm (W : World) (b : Nat) (f : Int → Option Pe) : Prop := ∃ D, W.ownsMap Tryz.prog 3 peR b 64 D ∧ PmD D f
section
variable {W W' : World} {b : Nat} {f : Int → Option Pe}
theorem owns_tight {n : Nat} {D : DataW Unit} (h : W.ownsMap Tryz.prog 3 peR b n D) : W.ownsMap Tryz.prog 3 peR b (Maps.size D) D := by
  obtain ⟨es, clock, hb, F, hs, rfl⟩ := h
  exact ⟨es, clock, hb, F, by rw [Maps.size_eq, length_sorted]; simp, rfl⟩
theorem Pm.of {n : Nat} {D : DataW Unit} (h : W.ownsMap Tryz.prog 3 peR b n D) (hd : PmD D f) : Pm W b f := ⟨D, (owns_tight h).mono (hd.size (h.entries int_key)), hd⟩
theorem Pm.lt (h : Pm W b f) : b < W.heap.size := by obtain ⟨D, h1, _⟩ := h; exact h1.lt
theorem Pm.keep (h : Pm W b f) (hk : W'.heap[b]? = W.heap[b]?) : Pm W' b f := by
  obtain ⟨D, ⟨es, clock, hb, F, hs, hD⟩, h2⟩ := h
  exact ⟨D, ⟨es, clock, hk.trans hb, F, hs, hD⟩, h2⟩
theorem Pm.below (h : Pm W b f) (hb : Below W.heap.size W W') : Pm W' b f := h.keep (hb.block b h.lt)
theorem pmd_nil : PmD (.map []) fun _ => none := ⟨fun _ _ => rfl, fun _ => rfl, (fun _ h => by cases h), (fun _ h => by cases h)⟩
/-- A map that is new. -/
theorem Pm.made (W : World) : Pm (W.alloc (.map #[] 0)) W.heap.size fun _ => none := Pm.of (World.ownsMap_made W Tryz.prog 3 peR) pmd_nil
theorem Pm.made_at (h : W.heap[b]? = some (.map #[] 0)) : Pm W b fun _ => none := by
  obtain ⟨es, clock, hb, F, hs, hD⟩ := World.ownsMap_made (H := Unit) W Tryz.prog 3 peR
  rw [heap_alloc_new] at hb
  injection hb with hb
  injection hb with h1 h2
  subst h1 h2
  exact Pm.of (n := 0) (D := .map []) ⟨#[], 0, h, F, hs, hD⟩ pmd_nil
/-- What stands at a number. -/
theorem Pm.look (h : Pm W b f) {who : Int} (hw : I64 who) : (Instr.lookup 106 (.map (some b)) (.int .i64 who) true).run Tryz.prog W = .ok (.tuple #[peV ((f who).getD pe0), .bool (f who).isSome]) W := by
  obtain ⟨D, ⟨es, clock, hb, F, hs, rfl⟩, hd⟩ := h
  have hk := Maps.keyOf_int_mk Tryz.underlying3 (i64_wf hw)
  rcases Maps.fit_look true int_key Tryz.underlying106 (pe_zero W) hb F hk with ⟨h1, h2, h3⟩ | ⟨e0, y, h1, h2, h3, h4, h5, _⟩
  · have h6 : f who = none := by
      cases hf : f who with
      | none => rfl
      | some p =>
        have k1 := hd.at_ who (.lit (.int .i64 0))
        rw [h3, hf] at k1
        cases k1
    rw [h1, h6]
    rfl
  · obtain ⟨p, hp, rfl⟩ := peR_inv h4
    have h6 : f who = some p := by
      have k1 := hd.at_ who (.lit (.int .i64 0))
      rw [h5] at k1
      cases hf : f who with
      | none => rw [hf] at k1; cases k1
      | some q => rw [hf] at k1; rw [peD_inj k1]
    rw [h3, h6, hp]
    rfl
/-- Another one stands there. -/
theorem Pm.put (h : Pm W b f) {who : Int} (hw : 1 ≤ who ∧ who ≤ 64) (p : Pe) : ∃ w', (Instr.mapUpdate 106 (.map (some b)) (.int .i64 who) (peV p)).run Tryz.prog W = .ok () w' ∧ Pm w' b (fun x => if x = who then some p else f x) ∧ W.grownBy w' (some b) := by
  obtain ⟨D, ho, hd⟩ := h
  have hk := Maps.keyOf_int_mk Tryz.underlying3 (i64_wf (z := who) (by unfold I64; omega))
  obtain ⟨w', h1, h2, h3⟩ := ho.update int_key Tryz.underlying106 (by unfold maxLen; omega) hk (peR_mk p)
  have him : Maps.IsMap D := by obtain ⟨es, clock, _, _, _, rfl⟩ := ho; exact ⟨_, rfl⟩
  have hkl : WideAt.IsKeyLit (.int .i64 who) := int_key.key hk
  refine ⟨w', h1, Pm.of h2 ⟨fun x z => ?_, fun x => ?_, fun x hx => ?_, fun kl hkl' => ?_⟩, h3⟩
  · by_cases e : x = who
    · subst e
      rw [if_pos rfl, Maps.atKey_put_same him hkl]
      rfl
    · rw [if_neg e, Maps.atKey_put_other (fun h => e (by injection h)), hd.at_]
  · by_cases e : x = who
    · subst e
      rw [if_pos rfl, Maps.has_put_same him hkl]
      rfl
    · rw [if_neg e, Maps.has_put_other (fun h => e (by injection h)), hd.has_]
  · by_cases e : x = who
    · rw [e]; exact hw
    · rw [if_neg e] at hx
      exact hd.key x hx
  · by_cases e : kl = .int .i64 who
    · exact ⟨who, e⟩
    · rw [Maps.has_put_other e] at hkl'
      exact hd.lit kl hkl'
end
end Go.Proofs.YtmhaahcbmdhinaaGreatDoor
namespace Go.Proofs.YtmhaahcbmdhinaaGreatDoor
open Go.RowKit
set_option linter.unusedVariables false
set_option linter.unusedSimpArgs false
set_option maxRecDepth 100000
def OwnPost (W : World) (n : Nat) (l : List Int) (e : Ending) (w' : World) : Prop := ∃ A c, e = .returned (.slice A n c) ∧ w'.ownsRow W.heap.size 3 1 (.slice A n c) n (ii l) ∧ Below W.heap.size W w'
theorem eqlC (w : World) (A : Option Addr) (n c : Nat) : (binOp .eql 39 (.slice A n c) (.slice none 0 0)).run Tryz.prog w = .ok (.bool A.isNone) w := Lib.run_eql_slice_nil w 39 3 A n c 0 0 Tryz.underlying39
attribute [local go_sem] eqlC
theorem cloneC_any (A : Option Addr) (n c : Nat) (l : List Int) (w : World) {ok : Nat → Prop} (hr : Rd w ok 1 A n (ii l)) (hn : n ≤ 1000000) :
    Calls Tryz.prog 97 #[.slice A n c] w (OwnPost w n l) := by
  have h1 := ii_one l
  cases A with
  | none =>
    obtain ⟨rfl, h0⟩ := hr.nil_of_none
    obtain rfl : l = [] := by simpa [ii] using h0
    go_enter Tryz.func97, Tryz.ntmps97
    go_wp2_with fail
    go_ret
    exact ⟨_, _, rfl, ⟨by simp [ii], .inl ⟨rfl, rfl⟩⟩, Below.refl _ _⟩
  | some ad =>
    go_enter Tryz.func97, Tryz.ntmps97
    go_wp2_with (at_builtin; refine wpList_append_any _ Tryz.underlying39 int_elem rfl (by omega) rfl rfl rfl (own_new w w.heap.size 3 1 (Nat.le_refl _)) rfl (hr.alloc _) h1 (by omega) (by simp) (Nat.zero_add _) (List.nil_append _) ?_; intro A1 c1 w1 hown1 hg1 hat1)
    go_ret
    exact ⟨_, _, rfl, hown1, ((Below.refl _ _).alloc (Nat.le_refl _) _).grown hg1 (by simp) (by simp)⟩
end Go.Proofs.YtmhaahcbmdhinaaGreatDoor
namespace Go.Proofs.YtmhaahcbmdhinaaGreatDoor
open Go.RowKit
set_option maxRecDepth 100000
set_option linter.unusedVariables false
set_option linter.unusedSimpArgs false
theorem bs_one' (l : List UInt8) : ∀ u ∈ bs l, u.oneCell' = true := bs_one l
def StOwn (W : World) (s : St) (e : Ending) (w' : World) : Prop :=
  ∃ s' : Sv, e = .returned s'.val ∧ s'.At w' (W.heap.size ≤ ·) ∧ s'.st = s ∧ Below W.heap.size W w'
set_option maxHeartbeats 3200000 in
theorem sown_any (tm vt b t : Int) (A : Option Addr) (n c : Nat) (L : List Er) (C : Option Addr) (nc cc : Nat) (cf : List Int) (S : Option Addr) (ns cs : Nat) (sn : List UInt8) (w : World)
    (hr : Rd w T 4 A n (flat ecell L)) (hd : Dat w L) (hw : Wel L) (hs : ∀ x ∈ L, x.n ≤ 1000000) (hm : lmay b t (L.map en) = true) (hn : n ≤ 1000000) (hnn : n ≤ c) (hcm : c ≤ maxLen) (hc : Rd w T 1 C nc (ii cf)) (hnc : nc ≤ 1000000) (hsn : Rd w T 1 S ns (bs sn)) (hns : ns ≤ 35184372088832) :
    Calls Tryz.prog 37 #[stA tm vt b t A n c C nc cc S ns cs] w (StOwn w ⟨tm, vt, b, t, L.map en, cf, sn⟩) := by
  obtain ⟨W0, hW0⟩ : ∃ W0, W0 = (w.alloc (.cells #[.int .i64 tm, .int .i64 vt, .int .i64 b, .int .i64 t, .slice A n c, .slice C nc cc, .slice S ns cs] 41)).alloc (.cells #[.int .i64 0, .int .i64 0, .int .i64 0, .int .i64 0, .slice none 0 0, .slice none 0 0, .slice none 0 0] 41) := ⟨_, rfl⟩
  have b0 : Bx W0 w.heap.size #[.int .i64 tm, .int .i64 vt, .int .i64 b, .int .i64 t, .slice A n c, .slice C nc cc, .slice S ns cs] := by subst hW0; exact (Bx.new _ _ _ rfl).alloc _
  have hbe : Below w.heap.size w W0 := by subst hW0; exact ((Below.refl _ _).alloc (Nat.le_refl _) _).alloc (by simp) _
  have hcp := comp_own b t A n c L W0 (hr.below hbe) (hd.below hbe) hw hs hm hn hnn hcm
  obtain ⟨c0, c1, c2, c3, c4, c5, c6⟩ := b0.c7
  have HW := Lib.hid hW0
  have b9 : Bx W0 (w.heap.size + 1) #[.int .i64 0, .int .i64 0, .int .i64 0, .int .i64 0, .slice none 0 0, .slice none 0 0, .slice none 0 0] := by subst hW0; exact Bx.new _ _ _ (by simp)
  have hz0 : W0.heap.size = w.heap.size + 2 := by subst hW0; simp
  have B9 := Lib.hid (And.intro b9 hz0)
  have B := Lib.hid (And.intro b0 hbe)
  have Hcp := Lib.hid hcp
  clear hW0 b0 hbe hcp b9 hz0
  unfold stA
  go_enter Tryz.func37, Tryz.ntmps37
  go_upto_region 1 with (fail)
  rw [← HW.out]
  go_wp2_with fail
  refine Hcp.out.mono ?_
  rintro e w1 ⟨A1, c1', L1, rfl, r1, d1, e1, k1, hb1⟩
  clear c0 c1 c2 c3 c4 c5 c6
  obtain ⟨c0, c1, c2, c3, c4, c5, c6⟩ := (B.out.1.below hb1).c7
  have f2 : w1.frozen? ⟨w.heap.size, 2, none⟩ = false := (B.out.1.below hb1).f 2
  have f3 : w1.frozen? ⟨w.heap.size, 3, none⟩ = false := (B.out.1.below hb1).f 3
  have f4 : w1.frozen? ⟨w.heap.size, 4, none⟩ = false := (B.out.1.below hb1).f 4
  go_upto_region 2 with (fail)
  obtain ⟨W2, hW2⟩ : ∃ W2, W2 = (((w1.setCell ⟨w.heap.size, 2, none⟩ (.int .i64 b)).setCell ⟨w.heap.size, 3, none⟩ (.int .i64 t)).setCell ⟨w.heap.size, 4, none⟩ (.slice A1 n c1')) := ⟨_, rfl⟩
  have x2 : Bx W2 w.heap.size #[.int .i64 tm, .int .i64 vt, .int .i64 b, .int .i64 t, .slice A1 n c1', .slice C nc cc, .slice S ns cs] := by
    subst hW2
    exact (((B.out.1.below hb1).set 2 _).set 3 _).set 4 _
  have y2 : Bx W2 (w.heap.size + 1) #[.int .i64 0, .int .i64 0, .int .i64 0, .int .i64 0, .slice none 0 0, .slice none 0 0, .slice none 0 0] := by
    subst hW2
    exact (((B9.out.1.below hb1).far (by simp) _).far (by simp) _).far (by simp) _
  have hz0 := B9.out.2
  have hne : ¬ W0.heap.size ≤ w.heap.size := by omega
  have r2 : Rd W2 (W0.heap.size ≤ ·) 4 A1 n (flat ecell L1) := by
    subst hW2
    exact ((r1.setCell (p := ⟨w.heap.size, 2, none⟩) hne _).setCell (p := ⟨w.heap.size, 3, none⟩) hne _).setCell (p := ⟨w.heap.size, 4, none⟩) hne _
  have d2 : DatB W2 W0.heap.size L1 := by
    subst hW2
    exact fun y hy => ⟨(((d1 y hy).1.setCell (p := ⟨w.heap.size, 2, none⟩) hne _).setCell (p := ⟨w.heap.size, 3, none⟩) hne _).setCell (p := ⟨w.heap.size, 4, none⟩) hne _, (d1 y hy).2⟩
  have hb2 : Below w.heap.size w W2 := by
    subst hW2
    exact (((B.out.2.trans (hb1.mono B.out.2.size)).setCell (Nat.le_refl _) _).setCell (Nat.le_refl _) _).setCell (Nat.le_refl _) _
  have hcc := fun W (h : Below W2.heap.size W2 W) => cloneC_any C nc cc cf W (((hc.lt (by omega)).mono fun b hb => hb.2).below (hb2.trans (h.mono hb2.size))) hnc
  have hcs := fun W (h : Below W2.heap.size W2 W) => clone_any S ns cs (bs sn) W (((hsn.lt (by omega)).mono fun b hb => hb.2).below (hb2.trans (h.mono hb2.size))) (bs_one' _) hns
  have h0z : W0.heap.size ≤ W2.heap.size := by subst hW2; simpa [World.setCell] using hb1.size
  rw [← hW2]
  clear c0 c1 c2 c3 c4 c5 c6 f2 f3 f4
  obtain ⟨c0, c1, c2, c3, c4, c5, c6⟩ := x2.c7
  have f5 : W2.frozen? ⟨w.heap.size, 5, none⟩ = false := x2.f 5
  have f6 : W2.frozen? ⟨w.heap.size, 6, none⟩ = false := x2.f 6
  have X2 := Lib.hid (And.intro x2 y2)
  have R2 := Lib.hid (And.intro r2 (And.intro d2 (And.intro e1 k1)))
  have HB2 := Lib.hid (And.intro hb2 (And.intro hne h0z))
  have Hcc := Lib.hid hcc
  have Hcs := Lib.hid hcs
  clear x2 y2 r2 d2 hb2 hne hcc hcs hW2 r1 d1 e1 k1 hb1 hz0 hc hsn hr hd hw hs hm h0z
  go_region_law (first
    | (go_simp; go_at_call 97; refine (Hcc.out _ (Below.refl _ _).drew).mono ?_; rintro e w3 ⟨A3, c3', rfl, o3, hb3⟩; have x3 := X2.out.1.drew.below hb3; have y5 := x3.c 5; have y6 := x3.c 6; have g5 := x3.f 5; have g6 := x3.f 6; have X3 := Lib.hid x3; clear x3)
    | (go_simp; go_at_call 98; refine (Hcs.out w3 ((Below.refl _ _).drew.trans hb3)).mono ?_; rintro e w4 ⟨A4, c4', rfl, o4, hb4⟩; have x4 := X3.out.below hb4; have z5 := x4.c 5; have z6 := x4.c 6; have k5 := x4.f 5; have k6 := x4.f 6; have X4 := Lib.hid x4; clear x4))
  all_goals
    obtain ⟨W5, hW5⟩ : ∃ W5, W5 = (w4.setCell ⟨w.heap.size, 5, none⟩ (.slice A3 nc c3')).setCell ⟨w.heap.size, 6, none⟩ (.slice A4 ns c4') := ⟨_, rfl⟩
    have hne := HB2.out.2.1
    have h0z := HB2.out.2.2
    have hz0 := B9.out.2
    have e2 : W2.drew.heap.size = W2.heap.size := rfl
    have x5 : Bx W5 w.heap.size #[.int .i64 tm, .int .i64 vt, .int .i64 b, .int .i64 t, .slice A1 n c1', .slice A3 nc c3', .slice A4 ns c4'] := by
      subst hW5
      exact (X4.out.set 5 _).set 6 _
    have y5' : Bx W5 (w.heap.size + 1) #[.int .i64 0, .int .i64 0, .int .i64 0, .int .i64 0, .slice none 0 0, .slice none 0 0, .slice none 0 0] := by
      subst hW5
      exact (((X2.out.2.drew.below hb3).below hb4).far (by simp) _).far (by simp) _
    have r5 : Rd W5 (W0.heap.size ≤ ·) 4 A1 n (flat ecell L1) := by
      subst hW5
      exact (((R2.out.1.drew.below hb3).below hb4).setCell (p := ⟨w.heap.size, 5, none⟩) hne _).setCell (p := ⟨w.heap.size, 6, none⟩) hne _
    have d5 : DatB W5 W0.heap.size L1 := by
      subst hW5
      exact fun y hy => ⟨((((R2.out.2.1 y hy).1.drew.below hb3).below hb4).setCell (p := ⟨w.heap.size, 5, none⟩) hne _).setCell (p := ⟨w.heap.size, 6, none⟩) hne _, (R2.out.2.1 y hy).2⟩
    have c5' : Rd W5 (W0.heap.size ≤ ·) 1 A3 nc (ii cf) := by
      subst hW5
      exact ((((Rd.of_own o3).mono fun q hq => (by omega : W0.heap.size ≤ q)).below hb4).setCell (p := ⟨w.heap.size, 5, none⟩) hne _).setCell (p := ⟨w.heap.size, 6, none⟩) hne _
    have s5' : Rd W5 (W0.heap.size ≤ ·) 1 A4 ns (bs sn) := by
      subst hW5
      have hz3 := hb3.size
      exact (((Rd.of_own o4).mono fun q hq => (by omega : W0.heap.size ≤ q)).setCell (p := ⟨w.heap.size, 5, none⟩) hne _).setCell (p := ⟨w.heap.size, 6, none⟩) hne _
    have hb5 : Below w.heap.size w W5 := by
      subst hW5
      have hz2 := HB2.out.1.size
      have hz3 := hb3.size
      exact (((HB2.out.1.drew.trans (hb3.mono (by omega))).trans (hb4.mono (by omega))).setCell (Nat.le_refl _) _).setCell (Nat.le_refl _) _
    have cp3 := own_cp o3
    have cp4 := own_cp o4
    rw [← hW5]
    have K := Lib.hid (And.intro r5 (And.intro d5 (And.intro c5' (And.intro s5' (And.intro hb5 (And.intro R2.out.2.2.1 (And.intro R2.out.2.2.2 (And.intro hz0 (And.intro cp3 cp4)))))))))
    obtain ⟨a0, a1, a2, a3, a4, a5, a6⟩ := x5.c7
    obtain ⟨q0, q1, q2, q3, q4, q5, q6⟩ := y5'.c7
    have p0 := y5'.f 0
    have p1 := y5'.f 1
    have p2 := y5'.f 2
    have p3 := y5'.f 3
    have p4 := y5'.f 4
    have p5 := y5'.f 5
    have p6 := y5'.f 6
    clear c0 c1 c2 c3 c4 c5 c6 f5 f6 z5 z6 k5 k6 y5 y6 g5 g6 hW5 x5 y5' r5 d5 c5' s5' hb5 hne h0z hz0 e2 hb3 hb4 o3 o4 X2 X3 X4 R2 HB2 cp3 cp4
    go_wp2_with fail
    refine bodyPost_ret (by simp [results, Tryz.results37, go_sem, q0, q1, q2, q3, q4, q5, q6]; rfl) rfl ?_
    obtain ⟨k1, k2, k3, k4, k5, k6, k7, k8, k9, k10⟩ := K.out
    have hne : ¬ W0.heap.size ≤ w.heap.size + 1 := by omega
    refine ⟨⟨tm, vt, b, t, A1, n, c1', L1, A3, nc, c3', cf, A4, ns, c4', sn⟩, rfl, ?_, ?_, ?_⟩
    · refine Sv.At.mono (ok := (W0.heap.size ≤ ·)) ?_ fun q hq => (by omega : w.heap.size ≤ q)
      refine Sv.At.keep (W := W5) ⟨k1, k2, k3, k4, k7, k9, k10⟩ fun q hq _ => ?_
      have hq2 : W0.heap.size ≤ q := hq
      iterate 7 refine (Below.heap_setCell _ _ _ q (by show q ≠ w.heap.size + 1; omega)).trans ?_
      rfl
    · unfold Sv.st
      dsimp only
      rw [k6]
    · exact ((((((k5.setCell (by simp) _).setCell (by simp) _).setCell (by simp) _).setCell (by simp) _).setCell (by simp) _).setCell (by simp) _).setCell (by simp) _
theorem sown_sv (s : Sv) (w : World) {ok : Nat → Prop} (h : s.At w ok) (hf : s.Fit) (hm : lmay s.b s.t (s.L.map en) = true) :
    Calls Tryz.prog 37 #[s.val] w (StOwn w s.st) :=
  sown_any _ _ _ _ _ _ _ _ _ _ _ _ _ _ _ _ w h.l.any h.dat (h.wel hf) (fun y hy => (hf.w y hy).2) hm hf.z.1 h.k1.1 h.k1.2 h.cf.any hf.z.2.1 h.sn.any (by have := hf.z.2.2; omega)
end Go.Proofs.YtmhaahcbmdhinaaGreatDoor
namespace Go.Proofs.YtmhaahcbmdhinaaGreatDoor
open Go.RowKit
set_option maxRecDepth 100000
set_option linter.unusedVariables false
set_option linter.unusedSimpArgs false
theorem smay_sv (s : Sv) (w : World) {ok : Nat → Prop} (h : s.At w ok) (hf : s.Fit) (hev : EvW w w.heap.size) :
    Calls Tryz.prog 36 #[s.val] w (BoolPost w s.st.may) := by
  have := smay_any s.tm s.vt s.b s.t s.A s.n s.c s.L s.C s.nc s.cc s.cf s.S s.ns s.cs w h.l.any h.dat (h.wel hf) hf.z.1 h.cf.any hf.z.2.1 hev
  rw [smay_st _ _ _ _ _ _ s.sn] at this
  exact this
/-- A member's cells. -/
def coreC (s : Sv) (role leader commit round id span gone wait : Int) (votes : Value) (pm : Nat) (key : Int) (have_ : Value) : Array Value :=
  #[.int .i64 s.tm, .int .i64 s.vt, .int .i64 s.b, .int .i64 s.t, .slice s.A s.n s.c, .slice s.C s.nc s.cc, .slice s.S s.ns s.cs, .int .i64 role, .int .i64 leader, .int .i64 commit, .int .i64 round, .int .i64 id, .int .i64 span, .int .i64 gone, .int .i64 wait, votes, .map (some pm), .int .i64 key, have_]
def NewPost (W : World) (id span draw : Int) (s : St) (e : Ending) (w' : World) : Prop :=
  if s.may = true then ∃ (p : Nat) (s' : Sv), e = .returned (.tuple #[.pointer (some ⟨p + 1, 0, none⟩), .nilIface]) ∧ Bx w' (p + 1) (coreC s' 0 0 s.b 0 id span 0 (drw span draw) (.slice none 0 0) p 0 (.slice none 0 0)) ∧ s'.At w' (fun b => W.heap.size ≤ b ∧ b < p) ∧ s'.st = s ∧ W.heap.size ≤ p ∧ w'.heap[p]? = some (.map #[] 0) ∧ Below W.heap.size W w'
  else e = .returned (.tuple #[.pointer none, .iface 105 (.int .i64 1)]) ∧ Below W.heap.size W w'
set_option maxHeartbeats 3200000 in
theorem new_ok (id span draw : Int) (s : Sv) (w : World) {ok : Nat → Prop} (h : s.At w ok) (hf : s.Fit) (hev : EvW w w.heap.size) (h1 : 1 ≤ id) (h2 : id ≤ 64) (h3 : 2 ≤ span) (h4 : span ≤ 1000) :
    Calls Tryz.prog 12 #[.int .i64 id, .int .i64 span, s.val, .int .i64 draw] w (NewPost w id span draw s.st) := by
  obtain ⟨W0, hW0⟩ : ∃ W0, W0 = w.alloc (.cells s.cells 41) := ⟨_, rfl⟩
  have b0 : Bx W0 w.heap.size s.cells := by subst hW0; exact Bx.new _ _ _ rfl
  have hbe : Below w.heap.size w W0 := by subst hW0; exact (Below.refl _ _).alloc (Nat.le_refl _) _
  have hz0 : W0.heap.size = w.heap.size + 1 := by subst hW0; simp
  have hmy := smay_sv s W0 (h.below hbe) hf (hev.below hbe (Nat.le_refl _) |>.mono (by omega))
  have how := fun W (hb : Below W0.heap.size W0 W) (hm : lmay s.b s.t (s.L.map en) = true) => sown_sv s W ((h.below hbe).below hb) hf hm
  have hlm : s.st.may = true → lmay s.b s.t (s.L.map en) = true := fun hm => (St.may_iff hm).1
  obtain ⟨q, hq⟩ : ∃ q, s.st.may = q := ⟨_, rfl⟩
  rw [hq] at hmy hlm
  obtain ⟨c0, c1, c2, c3, c4, c5, c6⟩ := b0.c7
  have hdr := fun p cs W (h : Bx W p cs) (hc : cs[12]? = some (.int .i64 span)) (hz : 14 < cs.size) => draws_any p cs span draw W h hc hz h3 h4
  have hmm := @run_makeMap Tryz.prog
  have g1 : decide (id < 1) = false := decide_eq_false (by omega)
  have g2 : decide (64 < id) = false := decide_eq_false (by omega)
  have g3 : decide (span < 2) = false := decide_eq_false (by omega)
  have g4 : decide (1000 < span) = false := decide_eq_false (by omega)
  have HW := Lib.hid hW0
  have B := Lib.hid (And.intro b0 (And.intro hbe hz0))
  have Hmy := Lib.hid hmy
  have How := Lib.hid how
  have Hlm := Lib.hid hlm
  have Hq := Lib.hid hq
  have Hdr := Lib.hid hdr
  clear hW0 b0 hbe hz0 hmy how hlm hq hdr h hf hev
  unfold Sv.val stA
  go_enter Tryz.func12, Tryz.ntmps12
  go_upto_region 1 with (fail)
  have HW' := HW.out
  unfold Sv.cells at HW'
  rw [← HW']
  clear HW'
  go_wp2_with fail
  refine Hmy.out.mono ?_
  rintro e w1 ⟨rfl, hb1⟩
  clear c0 c1 c2 c3 c4 c5 c6
  obtain ⟨c0, c1, c2, c3, c4, c5, c6⟩ := (B.out.1.below hb1).c7
  cases q
  · go_wp2_with fail
    go_ret2
    unfold NewPost
    rw [if_neg (by rw [Hq.out]; decide)]
    exact ⟨rfl, B.out.2.1.trans (hb1.mono B.out.2.1.size)⟩
  · go_wp2_with fail
    refine (How.out w1 hb1 (Hlm.out (by trivial))).mono ?_
    rintro e w2 ⟨s', rfl, a2, e2, hb2⟩
    have A2 := Lib.hid (And.intro a2 (And.intro e2 (And.intro hb1 hb2)))
    clear c0 c1 c2 c3 c4 c5 c6
    obtain ⟨c0, c1, c2, c3, c4, c5, c6⟩ := ((B.out.1.below hb1).below hb2).c7
    clear a2 e2 hb1 hb2
    unfold Sv.val stA
    go_upto_region 4 with (fail)
    obtain ⟨W3, hW3⟩ : ∃ W3, W3 = (w2.alloc (.map #[] 0)).alloc (.cells (coreC s' 0 0 0 0 id span 0 0 (.slice none 0 0) w2.heap.size 0 (.slice none 0 0)) 109) := ⟨_, rfl⟩
    have x3 : Bx W3 (w2.heap.size + 1) (coreC s' 0 0 0 0 id span 0 0 (.slice none 0 0) w2.heap.size 0 (.slice none 0 0)) := by subst hW3; exact Bx.new _ _ _ (by simp)
    have hb3 : Below w2.heap.size w2 W3 := by subst hW3; exact ((Below.refl _ _).alloc (Nat.le_refl _) _).alloc (by simp) _
    have hm3 : W3.heap[w2.heap.size]? = some (.map #[] 0) := by
      subst hW3
      exact (Below.heap_alloc _ _ _ (by simp)).trans (heap_alloc_new _ _)
    have a3 := A2.out.1.lt.below hb3
    have y3 := ((B.out.1.below A2.out.2.2.1).below A2.out.2.2.2).below hb3
    clear c0 c1 c2 c3 c4 c5 c6
    obtain ⟨c0, c1, c2, c3, c4, c5, c6⟩ := y3.c7
    have k9 : W3.cell? ⟨w2.heap.size + 1, 9, none⟩ = some (.int .i64 0) := x3.c 9
    have f9 : W3.frozen? ⟨w2.heap.size + 1, 9, none⟩ = false := x3.f 9
    have HW3 := Lib.hid hW3
    have X3 := Lib.hid (And.intro x3 (And.intro hb3 (And.intro hm3 a3)))
    clear x3 hb3 hm3 a3 y3 hW3
    have HW3' := HW3.out
    unfold coreC at HW3'
    rw [← HW3']
    clear HW3'
    go_wp2_with fail
    refine (Hdr.out _ (coreC s' 0 0 s.b 0 id span 0 0 (.slice none 0 0) w2.heap.size 0 (.slice none 0 0)) _ (X3.out.1.set 9 (.int .i64 s.b)) rfl (by unfold coreC; simp)).mono ?_
    rintro e w4 ⟨rfl, x4, g4'⟩
    have X4 := Lib.hid (And.intro x4 g4')
    clear x4 g4'
    go_wp2_with fail
    go_ret2
    unfold NewPost
    rw [if_pos Hq.out]
    have s1 := B.out.2.1.size
    have s2 := A2.out.2.2.1.size
    have s3 := A2.out.2.2.2.size
    have s4 := X3.out.2.1.size
    have hle : w.heap.size ≤ w2.heap.size := by omega
    have hk : ∀ q, q < W3.heap.size → q ≠ w2.heap.size + 1 → w4.heap[q]? = W3.heap[q]? := fun q h5 h6 => (X4.out.2.block q (by simpa [World.setCell] using h5) (fun e => h6 (by injection e))).trans (Below.heap_setCell _ _ _ q h6)
    have hl1 := X3.out.1.lt
    refine ⟨w2.heap.size, s', rfl, X4.out.1, ?_, A2.out.2.1, hle, (hk _ (by omega) (by omega)).trans X3.out.2.2.1, ?_⟩
    · refine (X3.out.2.2.2.keep fun q hq hl => hk q hl (by have := hq.2; omega)).mono fun q hq => ⟨by have := hq.1; omega, hq.2⟩
    · have e1 : Below w.heap.size w w2 := (B.out.2.1.trans (A2.out.2.2.1.mono (by omega))).trans (A2.out.2.2.2.mono (by omega))
      have e2 : Below w.heap.size w W3 := e1.trans (X3.out.2.1.mono hle)
      refine (e2.setCell (p := ⟨w2.heap.size + 1, 9, none⟩) (by show w.heap.size ≤ w2.heap.size + 1; omega) (.int .i64 s.b)).grown X4.out.2 ?_ ?_
      · simp [World.setCell]; omega
      · intro q hq
        injection hq with hq
        omega
end Go.Proofs.YtmhaahcbmdhinaaGreatDoor
namespace Go.Proofs.YtmhaahcbmdhinaaGreatDoor
open Go.RowKit
set_option maxRecDepth 100000
set_option linter.unusedVariables false
set_option linter.unusedSimpArgs false
structure Mr where
  kind : Int
  fr : Int
  dst : Int
  term : Int
  ix : Int
  lt : Int
  cm : Int
  rd : Int
  ok : Bool
  off : Int
  D : Option Addr
  nd : Nat
  cd : Nat
  data : List UInt8
  E : Option Addr
  ne : Nat
  ce : Nat
  L : List Er
def mcell (x : Mr) : List Value := [.int .i64 x.kind, .int .i64 x.fr, .int .i64 x.dst, .int .i64 x.term, .int .i64 x.ix, .int .i64 x.lt, .int .i64 x.cm, .int .i64 x.rd, .bool x.ok, .int .i64 x.off, .slice x.D x.nd x.cd, .slice x.E x.ne x.ce]
def Mr.val (x : Mr) : Value := .agg #[.int .i64 x.kind, .int .i64 x.fr, .int .i64 x.dst, .int .i64 x.term, .int .i64 x.ix, .int .i64 x.lt, .int .i64 x.cm, .int .i64 x.rd, .bool x.ok, .int .i64 x.off, .slice x.D x.nd x.cd, .slice x.E x.ne x.ce]
def Mr.cells (x : Mr) : Array Value := #[.int .i64 x.kind, .int .i64 x.fr, .int .i64 x.dst, .int .i64 x.term, .int .i64 x.ix, .int .i64 x.lt, .int .i64 x.cm, .int .i64 x.rd, .bool x.ok, .int .i64 x.off, .slice x.D x.nd x.cd, .slice x.E x.ne x.ce]
theorem mcell_len (x : Mr) : (mcell x).length = 12 := rfl
theorem mcell_one (l : List Mr) : ∀ u ∈ flat mcell l, u.oneCell' = true := by
  intro u hu
  unfold flat at hu
  obtain ⟨x, _, hx⟩ := List.mem_flatMap.1 hu
  unfold mcell at hx
  simp only [List.mem_cons, List.not_mem_nil, or_false] at hx
  rcases hx with rfl | rfl | rfl | rfl | rfl | rfl | rfl | rfl | rfl | rfl | rfl | rfl <;> rfl
def Mr.ms (x : Mr) : Ms := ⟨x.kind, x.fr, x.dst, x.term, x.ix, x.lt, x.cm, x.rd, x.ok, x.off, x.data, x.L.map en⟩
structure Mr.At (x : Mr) (W : World) (ok : Nat → Prop) : Prop where
  d : Rd W ok 1 x.D x.nd (bs x.data)
  dk : x.nd ≤ x.cd ∧ x.cd ≤ maxLen
  e : Rd W ok 4 x.E x.ne (flat ecell x.L)
  ed : ∀ y ∈ x.L, Rd W ok 1 y.A y.n (bs y.d) ∧ y.n ≤ y.m ∧ y.m ≤ maxLen
  ek : x.ne ≤ x.ce ∧ x.ce ≤ maxLen
/-- Its numbers are what the machine can hold, and nothing is too long. -/
structure Mr.Fit (x : Mr) : Prop where
  i : I64 x.kind ∧ I64 x.fr ∧ I64 x.dst ∧ I64 x.term ∧ I64 x.ix ∧ I64 x.lt ∧ I64 x.cm ∧ I64 x.rd ∧ I64 x.off
  w : ∀ y ∈ x.L, W64 y ∧ y.n ≤ 1000000
  z : x.nd ≤ 1000000 ∧ x.ne ≤ 1000000
section
variable {x : Mr} {W W' : World} {ok ok' : Nat → Prop}
theorem Mr.At.mono (h : x.At W ok) (hk : ∀ b, ok b → ok' b) : x.At W ok' := ⟨h.d.mono hk, h.dk, h.e.mono hk, fun y hy => ⟨(h.ed y hy).1.mono hk, (h.ed y hy).2⟩, h.ek⟩
theorem Mr.At.keep (h : x.At W ok) (hk : ∀ b, ok b → b < W.heap.size → W'.heap[b]? = W.heap[b]?) : x.At W' ok := ⟨h.d.keep hk, h.dk, h.e.keep hk, fun y hy => ⟨(h.ed y hy).1.keep hk, (h.ed y hy).2⟩, h.ek⟩
theorem Mr.At.below (h : x.At W ok) (hb : Below W.heap.size W W') : x.At W' ok := h.keep fun b _ hl => hb.block b hl
theorem Mr.At.lt (h : x.At W ok) : x.At W fun b => ok b ∧ b < W.heap.size := ⟨h.d.lt (by omega), h.dk, h.e.lt (by omega), fun y hy => ⟨(h.ed y hy).1.lt (by omega), (h.ed y hy).2⟩, h.ek⟩
theorem Mr.At.dat (h : x.At W ok) : Dat W x.L := fun y hy => ⟨(h.ed y hy).1.any, (h.ed y hy).2⟩
theorem Mr.At.any (h : x.At W ok) : x.At W T := h.mono fun _ _ => trivial
end
/-- What of a member is not told by its plain form. -/
structure Mb where
  s : Sv
  V : Option Addr
  nv : Nat
  cv : Nat
  q : Nat
  H : Option Addr
  nh : Nat
  ch : Nat
def Mb.cells (m : Mb) (C : Cr) : Array Value := coreC m.s C.role C.leader C.commit C.round C.id C.span C.gone C.wait (.slice m.V m.nv m.cv) m.q C.key (.slice m.H m.nh m.ch)
/-- A member in memory: p its block; V what it writes; U what nobody else may write, V in it: what it reads lies elsewhere. -/
structure CX (fb : Nat) (W : World) (p : Nat) (V U : Nat → Prop) (C : Cr) (m : Mb) : Prop where
  bx : Bx W p (m.cells C)
  pm : Pm W m.q C.peers
  vp : V p
  vq : V m.q
  qp : m.q ≠ p
  vv : ∀ g, m.V.map (·.block) = some g → V g ∧ g ≠ p ∧ g ≠ m.q
  vu : ∀ b, V b → U b
  vf : ∀ b, V b → fb ≤ b
  ul : ∀ b, U b → b < W.heap.size
  vt : W.ownsRow 0 3 1 (.slice m.V m.nv m.cv) m.nv (ii C.votes)
  at_ : m.s.At W (fun b => ¬ U b)
  st : m.s.st = C.s
  hv : Rd W (fun b => ¬ U b) 1 m.H m.nh (bs C.hv)
  hk : m.nh ≤ m.ch ∧ m.ch ≤ maxLen
end Go.Proofs.YtmhaahcbmdhinaaGreatDoor
