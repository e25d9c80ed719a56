/- (By mkcmem.py, out of c10.) slices.BinarySearch at members.
   (By mkcmem.py, out of c10.) slices.Clone, slices.Delete at members.
   (By mkcmem.py, out of c10.) slices.Insert at members: one more at its place.
   (By mkcmem.py, out of c10.) slices.Insert at members: into a new row; all three roads.
   (By mkcmem.py, out of c10.) Walks: the members with one more, and without one.
   Walk: (*group).deed of the law: members are proposed -/
import Derived.Test.YtmhaahcbmdhinaaGreatDoorZM18
import Derived.Test.YtmhaahcbmdhinaaGreatDoorZM35
import Derived.Test.YtmhaahcbmdhinaaGreatDoorZM21
import Derived.Test.YtmhaahcbmdhinaaGreatDoorZM6
import Derived.Test.YtmhaahcbmdhinaaGreatDoorZM16
import Derived.Lib.AppendZerosOnto
import Derived.Lib.Overlaps
import Derived.Lib.JoinLaws
import Derived.Laws.Externs
import Derived.Laws.IdiomCopy
import Derived.Shelf.RegionOpenPlain
import Derived.Laws.NewBlocks
import Derived.Test.YtmhaahcbmdhinaaGreatDoorZM25
namespace Go.Proofs.YtmhaahcbmdhinaaGreatDoor
open Go.RowKit
set_option maxRecDepth 100000
set_option linter.unusedVariables false
set_option linter.unusedSimpArgs false
theorem nanC_any (z : Int) (w : World) : Calls Tryz.prog 218 #[.int .i64 z] w (SameBool w false) := by
 have hz : (z != z) = false := by simp
 go_enter Tryz.func218, Tryz.ntmps218
 go_wp2_with fail
 go_ret
 exact ⟨rfl, rfl⟩
theorem nanS_any (z : Int) (w : World) : Calls Tryz.prog 185 #[.int .i64 z] w (SameBool w false) := by
 have hz : (z != z) = false := by simp
 go_enter Tryz.func185, Tryz.ntmps185
 go_wp2_with fail
 go_ret
 exact ⟨rfl, rfl⟩
theorem less_any (x z : Int) (w : World) : Calls Tryz.prog 184 #[.int .i64 x, .int .i64 z] w (SameBool w (decide (x < z))) := by
 have hn := nanC_any x w
 have Hn := Lib.hid hn
 clear hn
 go_enter Tryz.func184, Tryz.ntmps184
 go_wp2_with fail
 refine Hn.out.mono ?_
 rintro e w' ⟨rfl, rfl⟩
 go_wp2_with fail
 go_ret
 exact ⟨rfl, rfl⟩
def FindPost (W : World) (z : Int) (l : List Int) (e : Ending) (w' : World) : Prop :=
 ∃ (k : Nat) (b : Bool), e = .returned (.tuple #[.int .i64 k, .bool b]) ∧ (l.Pairwise (· < ·) → k = low z l ∧ b = decide (z ∈ l)) ∧ k ≤ l.length ∧ W = w'
theorem search_any (A : Option Addr) (n c : Nat) (l : List Int) (z : Int) (w : World) {ok : Nat → Prop} (hr : Rd w ok 1 A n (ii l)) (hn : n ≤ 1000000) :
  Calls Tryz.prog 133 #[.slice A n c, .int .i64 z] w (FindPost w z l) := by
 have Hl := Lib.hid (ii_len hr)
 have hless := fun x => less_any x z w
 have Hless := Lib.hid hless
 have hnan := fun x => nanS_any x w
 have Hnan := Lib.hid hnan
 clear hless hnan
 go_enter Tryz.func133, Tryz.ntmps133
 go_wp2_with fail
 go_loopg [7, 8, 9] n (fun m s7 s8 s9 wr => ∃ i j : Nat, m = j - i ∧ i ≤ j ∧ j ≤ n ∧ s7 = .int .i64 i ∧ s8 = .int .i64 j ∧ (l.Pairwise (· < ·) → i ≤ low z l ∧ low z l ≤ j) ∧ wr = w)
 case atStart => exact ⟨0, n, by omega, by omega, by omega, rfl, rfl, fun _ => ⟨by omega, by have := low_le z l; rw [Hl.out] at this; exact this⟩, rfl⟩
 case round =>
  obtain ⟨i, j, hm, hij, hjn, rfl, rfl, hlow, rfl⟩ := hrel
  have Hm := Lib.hid hm
  have Hlow := Lib.hid hlow
  clear hm hlow
  by_cases hlt : i < j
  ·obtain ⟨h, hh⟩ : ∃ h, h = (i + j) / 2 := ⟨_, rfl⟩
   have h1 : i ≤ h := by omega
   have h2 : h < j := by omega
   have hi2 : ((i : Int) + (j : Int)) / 2 = (h : Int) := by omega
   obtain ⟨b, o, x, rfl, _, _, hx, hc⟩ := ii_cell hr (show h < n by omega)
   have Hx := Lib.hid hx
   have hltI : (i : Int) < j := by omega
   have hhn : (h : Int) < n := by omega
   have hh0 : (0 : Int) ≤ h := by omega
   clear hx hh
   go_wp2_with fail
   refine (Hless.out x).mono ?_
   rintro e w' ⟨rfl, rfl⟩
   by_cases hxz : x < z
   ·go_wp2_with fail
    go_roundg (j - (h + 1))
    case measure => have := Hm.out; omega
    case rel => exact ⟨h + 1, j, rfl, by omega, by omega, by go_num, rfl, fun hp => ⟨low_lt hp Hx.out hxz, (Hlow.out hp).2⟩, rfl⟩
   ·have hxzd : decide (x < z) = false := decide_eq_false hxz
    go_wp2_with fail
    go_roundg (h - i)
    case measure => have := Hm.out; omega
    case rel => exact ⟨i, h, rfl, by omega, by omega, rfl, rfl, fun hp => ⟨(Hlow.out hp).1, low_ge Hx.out (by omega)⟩, rfl⟩
  ·obtain rfl : i = j := by omega
   by_cases hin : i < n
   ·obtain ⟨b, o, x, rfl, _, _, hx, hc⟩ := ii_cell hr hin
    have Hx := Lib.hid hx
    clear hx
    have hinI : (i : Int) < n := by omega
    by_cases hxz : x = z
    ·subst hxz
     go_wp2_with fail
     go_ret2
     refine ⟨i, true, rfl, fun hp => ?_, by rw [Hl.out]; omega, rfl⟩
     have := Hlow.out hp
     exact ⟨by omega, (decide_eq_true (List.mem_of_getElem? Hx.out)).symm⟩
    ·have hxzf : (x == z) = false := by simpa using hxz
     go_wp2_with fail
     refine (Hnan.out x).mono ?_
     rintro e w' ⟨rfl, rfl⟩
     go_wp2_with fail
     go_ret2
     refine ⟨i, false, rfl, fun hp => ?_, by rw [Hl.out]; omega, rfl⟩
     have := Hlow.out hp
     refine ⟨by omega, (decide_eq_false fun hm => ?_).symm⟩
     have h3 := (low_mem hp).1 hm
     rw [show low z l = i by omega, Hx.out] at h3
     exact hxz (Option.some.inj h3)
   ·obtain rfl : i = n := by omega
    go_wp2_with fail
    go_ret2
    refine ⟨i, false, rfl, fun hp => ?_, by rw [Hl.out]; omega, rfl⟩
    have := Hlow.out hp
    refine ⟨by omega, (decide_eq_false fun hm => ?_).symm⟩
    have h3 := (low_mem hp).1 hm
    have := (List.getElem?_eq_some_iff.1 h3).1
    rw [Hl.out] at this
    omega
end Go.Proofs.YtmhaahcbmdhinaaGreatDoor
namespace Go.Proofs.YtmhaahcbmdhinaaGreatDoor
open Go.RowKit
set_option linter.unusedVariables false
set_option linter.unusedSimpArgs false
set_option maxRecDepth 100000
def DelCPost (W : World) (B : Nat) (A : Option Addr) (n c : Nat) (ys : List Value) (e : Ending) (w' : World) : Prop :=
 e = .returned (.slice A (n - 1) c) ∧ w'.ownsRow B 3 1 (.slice A (n - 1) c) (n - 1) ys ∧ W.grownBy w' (A.map (·.block))
theorem delC_any (B : Nat) (A : Option Addr) (n c : Nat) (xs : List Value) (j : Nat) (w : World) (hown : w.ownsRow B 3 1 (.slice A n c) n xs) (hj : j < n) (h1 : ∀ u ∈ xs, u.oneCell' = true) (hn : n ≤ 1000000) :
  Calls Tryz.prog 136 #[.slice A n c, .int .i64 (j : Nat), .int .i64 ((j : Nat) + 1)] w (DelCPost w B A n c (xs.take j ++ xs.drop (j + 1))) := by
 obtain ⟨g, rfl⟩ : ∃ g, A = some ⟨g, 0, none⟩ := by
  rcases hown.2 with ⟨h', h''⟩ | ⟨g', _, _, h', _⟩
  ·omega
  ·injection h' with h' _ _
   exact ⟨g', h'⟩
 have hnc : n ≤ c ∧ c ≤ maxLen := by
  rcases hown.2 with ⟨h', h''⟩ | ⟨g', cap, _, h', _, _, h2, h3, _⟩
  ·omega
  ·injection h' with _ _ h'
   subst h'
   exact ⟨h2, h3⟩
 have hcm : c ≤ 9223372036854775807 := by have := hnc.2; simpa [maxLen] using this
 have hnc := hnc.1
 have hxl : xs.length = n := by simpa using hown.1
 obtain ⟨news, hnews⟩ : ∃ news, news = xs.drop (j + 1) := ⟨_, rfl⟩
 have hnl : news.length = n - (j + 1) := by rw [hnews, List.length_drop, hxl]
 have hd : w.drew.ownsRow B 3 1 (.slice (some ⟨g, 0, none⟩) n c) n xs := hown.drew
 have ha := own_setCells (w := w) (xs := xs) news w.drew xs j hd
 obtain ⟨W1, hW1⟩ : ∃ W1, W1 = w.drew.setCells g j news := ⟨_, rfl⟩
 have hW1' : w.drew.setCells g (0 + j * 1) news = W1 := by rw [hW1, Nat.zero_add, Nat.mul_one]
 rw [← hW1] at ha
 have hb := own_setCells (w := w) (xs := xs) [.int .i64 0] W1 _ (n - 1) ha.1
 have hcl : ∀ ty cc, (Builtin.clear_ #[39] ty #[.slice (some ⟨g, n - 1, none⟩) 1 cc]).run Tryz.prog W1 = .ok (.tuple #[]) (W1.setCells g (n - 1) [.int .i64 0]) := fun ty cc =>
  run_clear_one W1 _ 3 ty (.int .i64 0) _ Tryz.underlying39 Tryz.zeroValue3 (by kernel_rfl) (by decide) g _ cc (fun i hi => own_isSome ha.1 _ (by simp at hi; omega)) (fun i hi => ha.1.frozenAt _)
 have hsrc : ∀ (ad : Addr), ad = (if c = j + 1 then (⟨g, 0, none⟩ : Addr) else ⟨g, j + 1, none⟩) → ∀ t u, news[t]? = some u → w.drew.cell? (ad.add t) = some u := by
  intro ad hade t u hu
  have htl := (List.getElem?_eq_some_iff.1 hu).1
  by_cases hc : c = j + 1
  ·omega
  ·rw [hade, if_neg hc]
   have hadd : (⟨g, j + 1, none⟩ : Addr).add t = ⟨g, j + 1 + t, none⟩ := by unfold Addr.add; split <;> simp_all
   rw [hadd]
   rw [hd.cellAt _ (by omega)]
   rw [← hu, hnews, List.getElem?_drop]
 have hspare : ∀ t, t < news.length → (w.drew.cell? ⟨g, 0 + j * 1 + t, none⟩).isSome = true ∧ w.drew.frozen? ⟨g, 0 + j * 1 + t, none⟩ = false := fun t ht => ⟨own_isSome hd _ (by omega), hd.frozenAt _⟩
 have h1n : ∀ u ∈ news, u.oneCell' = true := fun u hu => h1 u (by rw [hnews] at hu; exact List.mem_of_mem_drop hu)
 have hend : (lays (lays xs j news) (n - 1) [.int .i64 0]).take (n - 1) = xs.take j ++ xs.drop (j + 1) := by
  rw [lays_take _ _ _ _ (Nat.le_refl _), lays_eq _ _ _ (by omega), List.append_assoc, List.take_append, List.take_take]
  have e0 : (xs.take j).length = j := by rw [List.length_take]; omega
  rw [e0, List.take_append]
  have e1 : news.take (n - 1 - j) = news := List.take_of_length_le (by omega)
  have e2 : n - 1 - j - news.length = 0 := by omega
  have e3 : min (n - 1) j = j := by omega
  rw [e1, e2, e3, List.take_zero, List.append_nil, hnews]
 have Hfin := Lib.hid (And.intro ha (And.intro hb hend))
 have Hsrc := Lib.hid hsrc
 have Hsp := Lib.hid hspare
 have H1 := Lib.hid h1n
 have HW := Lib.hid hW1'
 have Hnl := Lib.hid hnl
 have hx1 : IntKind.i64.wrap ((j : Int) + 1) = (j : Int) + 1 := by rw [IntKind.wrap_i64]; omega
 have hjn : (j : Int) < n := by omega
 have hjn2 : ((j : Int) + 1) ≤ n := by omega
 have hje : ¬ ((j : Int) = (j : Int) + 1) := by omega
 clear ha hb hend hsrc hspare h1n hW1' hnl hW1 hnews hxl hd hown h1
 obtain ⟨i0, hi0, hz0, hz1, hz2⟩ := info_parts (P := Tryz.prog) (e := 3) (int_elem)
 go_enter Tryz.func136, Tryz.ntmps136
 go_wp2_with fail
 have hic : j ≤ c := by omega
 have hjc : j + 1 ≤ c := by omega
 have hjc3 : ((j : Int) + 1) ≤ c := by omega
 have hjc4 : (0 : Int) ≤ (j : Int) + 1 := by omega
 have htn : ((j : Int) + 1).toNat = j + 1 := by omega
 obtain ⟨ad, had, hade⟩ : ∃ ad, (if c = j + 1 then (some ⟨g, 0, none⟩ : Option Addr) else some ⟨g, j + 1, none⟩) = some ad ∧ ad = (if c = j + 1 then (⟨g, 0, none⟩ : Addr) else ⟨g, j + 1, none⟩) := ⟨_, by split <;> rfl, rfl⟩
 have Hs2 := Lib.hid (Hsrc.out ad hade)
 have hcj : j + (n - (j + 1)) = n - 1 := by omega
 clear hade
 go_region_law (refine step_append_room rfl (.tmp 22) (.tmp 25) 39 rfl 3 i0 1 Tryz.underlying39 hi0 hz1 g 0 j c (by simp [Act.eval, Act.put]) ad (n - (j + 1)) (c - (j + 1)) news (by simp [Act.eval, Act.put]) (by rw [Nat.mul_one]; exact Hnl.out) Hs2.out H1.out (by omega) Hsp.out ?_; rw [HW.out])
 all_goals
  have hcn : ¬ (c = n - 1) := by omega
  have hn1 : n - (n - 1) = 1 := by omega
  have hn2 : (((n - 1 : Nat)) : Int) ≤ n := by omega
  have hnc4 : n - 1 ≤ n := by omega
  try simp only [hcj]
  go_wp2_with fail
  go_ret
  obtain ⟨ha, hb, hend⟩ := Hfin.out
  have ht := own_take hb.1 (m := n - 1) (by omega)
  rw [Nat.mul_one, hend] at ht
  exact ⟨rfl, ht, hb.2.os.trans ha.2.os, hb.2.tape.trans ha.2.tape, hb.2.output.trans ha.2.output, Nat.le_trans ha.2.size hb.2.size, fun k hk hne => (hb.2.block k (Nat.lt_of_lt_of_le hk ha.2.size) hne).trans (ha.2.block k hk hne)⟩
end Go.Proofs.YtmhaahcbmdhinaaGreatDoor
namespace Go.Proofs.YtmhaahcbmdhinaaGreatDoor
open Go.RowKit Go.Lib
set_option linter.unusedVariables false
set_option linter.unusedSimpArgs false
set_option maxRecDepth 100000
theorem append_as {P : Program} {t t' e : TypeId} (ht : P.underlying t = some (.slice e)) (ht' : P.underlying t' = some (.slice e)) (ty : TypeId) (args : Array Value) (w : World) :
  (Builtin.append_ #[t, t'] ty args).run P w = (Builtin.append_ #[t, t] ty args).run P w := by
 unfold Builtin.append_
 rcases h0 : args[0]? with _ | s
 ·simp [h0]
 ·rcases h1 : args[1]? with _ | x
  ·simp [h0, h1]
  ·cases s <;> simp [run_underlying ht, run_underlying ht']
theorem wpList_append_as {P : Program} (w : World) {ops : Array Oper} {rest : List Oper} {o : Oper} {a : Act} {Q : Exit → Act → World → Prop} {s x : Operand} {t t' e : TypeId} {z : Value} {size bytes : Nat}
  (ht : P.underlying t = some (.slice e)) (ht' : P.underlying t' = some (.slice e)) (he : Elem P e z size bytes) (hzs : z.cells.size = size) (hsz : 0 < size)
  (hgd : o.guard = none) (ho : o.op = .call { callee := .builtin .append, args := #[s, x], argTypes := #[t, t'] })
  {base : Nat} {A0 : Option Addr} {n c0 : Nat} {xs : List Value} (hs : a.eval s = .slice A0 n c0) (hown : w.ownsRow base e size (.slice A0 n c0) n xs)
  {ok : Nat → Prop} {A : Option Addr} {m c : Nat} {news : List Value} (hx : a.eval x = .slice A m c) (hr : Rd w ok size A m news) (h1 : ∀ u ∈ news, u.oneCell' = true)
  (hbytes : (n + m) * (bytes + 1) ≤ 140737488355328) (hbase : base ≤ w.heap.size) {k : Nat} {ys : List Value} (hk : n + m = k) (hys : xs ++ news = ys)
  (h : ∀ A' c' w', w'.ownsRow base e size (.slice A' k c') k ys → w.grownBy w' (A0.map (·.block)) → (A'.map (·.block) = A0.map (·.block) ∨ A'.map (·.block) = some w.heap.size) → wpList P ops Q rest (a.put o.dst (.slice A' k c')) w') : wpList P ops Q (o :: rest) a w := by
 refine wpList_plain hgd fun K hK => ?_
 obtain ⟨v', w', hrun, h2, h3, h4⟩ := run_append_any (P := P) w base t o.type e z size bytes ht he hzs hsz _ n xs hown ok A m c news hr h1 hbytes hbase
 rw [← append_as ht ht'] at hrun
 obtain ⟨A', c', rfl, _⟩ := own_form h2
 subst hk hys
 unfold Oper.wp execOp
 simp only [ho, resolve, invoke, builtin, Sem.run_bind, Sem.run_pure, Result.andThen_ok, List.map_toArray, List.map_cons, List.map_nil, hs, hx, hrun]
 have e1 : ∀ (B : Option Addr) (p q : Nat), (Value.slice B p q).ownBlock = B.map (·.block) := fun B p q => by cases B <;> rfl
 rw [e1] at h3 h4
 rw [e1] at h4
 exact hK _ _ (h A' c' w' h2 h3 h4)
theorem wp_copy_at {P : Program} (w : World) {o : Oper} {a : Act} {K : Act → World → Prop} {Q : Exit → Act → World → Prop} (d s : Operand) (t t' : TypeId)
  (ho : o.op = .call { callee := .builtin .copy, args := #[d, s], argTypes := #[t, t'] }) (v u : Value) (hd : a.eval d = v) (hs : a.eval s = u) {v' : Value} {w' : World}
  (hr : (Builtin.copy_ #[t, t'] o.type #[v, u]).run P w = .ok v' w') (h : K (a.put o.dst v') w') : o.wp P a w K Q := by
 unfold Oper.wp execOp
 simp only [ho, resolve, invoke, builtin, Sem.run_bind, Sem.run_pure, Result.andThen_ok, List.map_toArray, List.map_cons, List.map_nil, hd, hs, hr]
 exact h
theorem step_copy_at {P : Program} {ops : Array Oper} {o : Oper} {a : Act} {w : World} {K : Act → World → Prop} {Q : Exit → Act → World → Prop} {E : Prop}
  (hg : o.guard = none) (d x : Operand) (dT sT : TypeId) (hop : o.op = Op.call { callee := Callee.builtin Builtin.copy, args := #[d, x], argTypes := #[dT, sT] })
  (v u : Value) (hd : a.eval d = v) (hx : a.eval x = u) {v' : Value} {w' : World} (hr : (Builtin.copy_ #[dT, sT] o.type #[v, u]).run P w = .ok v' w') (hK : K (a.put o.dst v') w') :
  if Region.wanted o (yielded ops a.tmps) = true then Oper.wp P o a w K Q else E := by
 have hw : Region.wanted o (yielded ops a.tmps) = true := by simp [Region.wanted, hg]
 rw [if_pos hw]
 exact wp_copy_at w d x dT sT hop v u hd hx hr hK
theorem own_more {w : World} {B : Nat} {e : TypeId} {g n c : Nat} {xs : List Value} (h : w.ownsRow B e 1 (.slice (some ⟨g, 0, none⟩) n c) n xs) (hc : n + 1 ≤ c) : ∃ y, w.ownsRow B e 1 (.slice (some ⟨g, 0, none⟩) (n + 1) c) (n + 1) (xs ++ [y]) := by
 rcases h.2 with ⟨h', _⟩ | ⟨g', cap', cur, h', hb, hg, hnc, hcm, hcs, htake⟩
 ·simp at h'
 ·simp only [Value.slice.injEq, Option.some.injEq, Addr.mk.injEq, and_true, true_and] at h'
  obtain ⟨rfl, rfl⟩ := h'
  have hl : n < cur.toList.length := by simp; omega
  refine ⟨cur.toList[n]'hl, by have := h.1; simp [this], .inr ⟨g, c, cur, rfl, hb, hg, by omega, hcm, hcs, ?_⟩⟩
  rw [Nat.mul_one] at htake
  rw [Nat.mul_one, List.take_add_one, htake, List.getElem?_eq_getElem hl]
  rfl
def InsPost (W : World) (B : Nat) (row : Option Nat) (n : Nat) (ys : List Value) (e : Ending) (w' : World) : Prop :=
 ∃ A' c', e = .returned (.slice A' (n + 1) c') ∧ w'.ownsRow B 3 1 (.slice A' (n + 1) c') (n + 1) ys ∧ W.grownBy w' row
theorem insC_end (B : Nat) (A : Option Addr) (n c : Nat) (xs : List Value) (v : Int) (vb : Nat) (w : World) (hown : w.ownsRow B 3 1 (.slice A n c) n xs) (hB : B ≤ w.heap.size) (hv : Bx w vb #[.int .i64 v]) (hn : n ≤ 1000000) :
  Calls Tryz.prog 134 #[.slice A n c, .int .i64 (n : Nat), .slice (some ⟨vb, 0, none⟩) 1 1] w (InsPost w B (A.map (·.block)) n (xs ++ [.int .i64 v])) := by
 have hrv : Rd w T 1 (some ⟨vb, 0, none⟩) 1 [.int .i64 v] := ⟨rfl, fun _ => ⟨_, rfl, trivial, fun j u hj => by
  rcases j with _ | j
  ·simp at hj; subst hj; exact hv.c 0
  ·simp at hj⟩⟩
 have hnc := own_le hown
 clear hv
 go_enter Tryz.func134, Tryz.ntmps134
 go_wp2_with (at_builtin; refine wpList_append_as _ Tryz.underlying39 Tryz.underlying25 int_elem rfl (by omega) rfl rfl rfl hown rfl hrv (by intro u hu; simp only [List.mem_cons, List.not_mem_nil, or_false] at hu; subst hu; rfl) (by omega) hB rfl rfl ?_; intro A1 c1 w1 hown1 hg1 hat1)
 all_goals
  go_ret
  exact ⟨_, _, rfl, hown1, hg1⟩
set_option maxHeartbeats 4000000 in
theorem insC_shift (B g n c i : Nat) (xs : List Value) (v : Int) (vb : Nat) (w : World) (hown : w.ownsRow B 3 1 (.slice (some ⟨g, 0, none⟩) n c) n xs) (hv : Bx w vb #[.int .i64 v]) (hvg : vb ≠ g) (hi : i < n) (hc : n + 1 ≤ c) (h1 : ∀ u ∈ xs, u.oneCell' = true) (hn : n ≤ 1000000) :
  Calls Tryz.prog 134 #[.slice (some ⟨g, 0, none⟩) n c, .int .i64 (i : Nat), .slice (some ⟨vb, 0, none⟩) 1 1] w (InsPost w B (some g) n (xs.take i ++ .int .i64 v :: xs.drop i)) := by
 obtain ⟨y, hm⟩ := own_more hown hc
 have hxl : xs.length = n := by have := hown.1; omega
 have hc63 : c ≤ 9223372036854775807 := by
  rcases hown.2 with ⟨h', h''⟩ | ⟨g', cap, _, h', _, _, h2, h3, _⟩
  ·omega
  ·injection h' with _ _ h'
   subst h'
   simpa [maxLen] using h3
 have ha := own_setCells (w := w) (xs := xs) (xs.drop i) w.drew _ (i + 1) hm.drew
 have hb := own_setCells (w := w) (xs := xs) [.int .i64 v] (w.drew.setCells g (i + 1) (xs.drop i)) _ i ha.1
 have hend : lays (lays (xs ++ [y]) (i + 1) (xs.drop i)) i [.int .i64 v] = xs.take i ++ .int .i64 v :: xs.drop i := by
  rw [lays_eq [.int .i64 v] _ _ (by rw [lays_length]; simp; omega), lays_take _ _ _ _ (by omega), lays_eq _ _ _ (by simp; omega)]
  have e1 : (xs ++ [y]).drop (i + 1 + (xs.drop i).length) = [] := List.drop_of_length_le (by simp; omega)
  have e2 : ((xs ++ [y]).take (i + 1)).length = i + 1 := by simp; omega
  rw [e1, List.append_nil, List.drop_append, List.drop_of_length_le (by rw [e2]; simp), e2, List.take_append_of_le_length (by omega)]
  simp
 rw [hend] at hb
 have hfin : (((w.drew.setCells g (i + 1) (xs.drop i)).setCells g i [.int .i64 v]).ownsRow B 3 1 (.slice (some ⟨g, 0, none⟩) (n + 1) c) (n + 1) (xs.take i ++ .int .i64 v :: xs.drop i)) ∧ w.grownBy ((w.drew.setCells g (i + 1) (xs.drop i)).setCells g i [.int .i64 v]) (some g) :=
  ⟨hb.1, hb.2.os.trans ha.2.os, hb.2.tape.trans ha.2.tape, hb.2.output.trans ha.2.output, Nat.le_trans ha.2.size hb.2.size, fun k hk hne => (hb.2.block k (Nat.lt_of_lt_of_le hk ha.2.size) hne).trans (ha.2.block k hk hne)⟩
 obtain ⟨tv, hvh⟩ := hv.hp
 obtain ⟨cur, hgh⟩ : ∃ cur : Array Value, w.heap[g]? = some (.cells cur 3 (0, 0)) ∧ cur.size = c := by
  rcases hown.2 with ⟨h', h''⟩ | ⟨g', cap, cur, h', _, h1, h2, h3, h4, _⟩
  ·omega
  ·injection h' with h' _ h''
   injection h' with h'
   injection h' with h'
   subst h' h''
   exact ⟨cur, h1, by omega⟩
 have hsa : w.shape? vb = some (tv, 1) := by simp [World.shape?, hvh]
 have hsb : w.shape? g = some (3, c) := by simp [World.shape?, hgh.1, hgh.2]
 have hov : ∀ la ca lb cb, (callFunc 186 #[.slice (some ⟨vb, 0, none⟩) la ca, .slice (some ⟨g, i + 1, none⟩) lb cb]).run Tryz.prog w = .ok (.value (.bool false)) w := fun la ca lb cb => by
  rw [run_callFunc_extern Tryz.func186 (by kernel_rfl) (by kernel_rfl) (by kernel_rfl) (e := Extern.SlicesOverlaps.overlaps #[25, 25] #[4]) (by kernel_rfl),
   Lib.run_overlaps_apart w 25 4 3 Tryz.underlying25 1 Tryz.sizeOf3 ⟨vb, 0, none⟩ ⟨g, i + 1, none⟩ la ca lb cb hvg tv 3 1 c hsa hsb (by omega) (hv.f 0) (hv.f 1)]
  rfl
 have hsz : (Tryz.prog.info? 3).map (·.size) = some 1 := by
  obtain ⟨i0, hi0, h0, h1, h2⟩ := info_parts (P := Tryz.prog) (e := 3) int_elem
  rw [hi0]; simp [h1]
 have hdl : (xs.drop i).length = n - i := by rw [List.length_drop, hxl]
 have hcs : ∀ j u, xs[j]? = some u → w.cell? ⟨g, j, none⟩ = some u := fun j u hu => by rw [hown.cellAt _ (by have := (List.getElem?_eq_some_iff.1 hu).1; omega)]; exact hu
 have hsp : ∀ j, j < n + 1 → (w.cell? ⟨g, j, none⟩).isSome = true := fun j hj => own_isSome hm j (by omega)
 have hcp1 : ∀ ty dc sc sl, n - i ≤ sl → (Builtin.copy_ #[39, 39] ty #[.slice (some ⟨g, i + 1, none⟩) (n - i) dc, .slice (some ⟨g, i, none⟩) sl sc]).run Tryz.prog w.drew = .ok (goInt (xs.drop i).length) (w.drew.setCells g (i + 1) (xs.drop i)) := fun ty dc sc sl hsl =>
  run_copy_cells w.drew _ _ ty 3 g (i + 1) (n - i) dc ⟨g, i, none⟩ sl sc (xs.drop i) Tryz.underlying39 hsz (by rw [hdl]; simp only [Nat.min_def]; split <;> omega)
   (fun j u hj => by rw [Addr.add_lit]; exact hcs (i + j) u (by rwa [List.getElem?_drop] at hj))
   (fun j hj => hsp _ (by omega)) (fun j hj => hown.frozenAt _) (fun u hu => h1 u (List.mem_of_mem_drop hu))
 obtain ⟨W1, hW1⟩ : ∃ W1, W1 = w.drew.setCells g (i + 1) (xs.drop i) := ⟨_, rfl⟩
 rw [← hW1] at ha hcp1 hfin
 have hcell1 : W1.cell? ⟨vb, 0, none⟩ = some (.int .i64 v) := by
  rw [hW1, World.cell?_setCells_out g _ _ _ _ (fun h _ => absurd h hvg)]
  exact hv.c 0
 have hcp2 : ∀ (W : World), (∀ x, W.cell? x = W1.cell? x) → (∀ x, W.frozen? x = W1.frozen? x) → ∀ ty dl dc, 1 ≤ dl → (Builtin.copy_ #[39, 25] ty #[.slice (some ⟨g, i, none⟩) dl dc, .slice (some ⟨vb, 0, none⟩) 1 1]).run Tryz.prog W = .ok (goInt 1) (W.setCells g i [.int .i64 v]) := fun W hWc hWf ty dl dc hdl =>
  run_copy_cells W _ _ ty 3 g i dl dc ⟨vb, 0, none⟩ 1 1 [.int .i64 v] Tryz.underlying39 hsz (by simp [Nat.min_def]; omega)
   (fun j u hj => by
    rcases j with _ | j
    ·simp at hj; subst hj; rw [Addr.add_lit, hWc]; exact hcell1
    ·simp at hj)
   (fun j hj => by rw [hWc]; exact own_isSome ha.1 _ (by simp at hj; omega))
   (fun j hj => by rw [hWf]; exact ha.1.frozenAt _) (by intro u hu; simp only [List.mem_cons, List.not_mem_nil, or_false] at hu; subst hu; rfl)
 have Hov := Lib.hid hov
 have Hcp1 := Lib.hid hcp1
 have Hcp2 := Lib.hid hcp2
 have Hfin := Lib.hid hfin
 have hw1 : IntKind.i64.wrap ((i : Int) + 1) = (i : Int) + 1 := by rw [IntKind.wrap_i64]; omega
 have hw2 : IntKind.i64.wrap ((n : Int) + 1) = (n : Int) + 1 := by rw [IntKind.wrap_i64]; omega
 have hz2 : ((i : Int) == (n : Int)) = false := by simp; omega
 have hz3 : decide ((c : Int) < (n : Int) + 1) = false := decide_eq_false (by omega)
 have htn : ((i : Int) + 1).toNat = i + 1 := by omega
 have htn2 : ((n : Int) + 1).toNat = n + 1 := by omega
 have hb4 : ¬ (c = i) := by omega
 have hb5 : ¬ (c = i + 1) := by omega
 have hi0 : (0 : Int) ≤ i := by omega
 have hi1 : (0 : Int) ≤ (i : Int) + 1 := by omega
 have hn1 : (0 : Int) ≤ (n : Int) + 1 := by omega
 have hin : (i : Int) ≤ n := by omega
 have hnc1 : (n : Int) + 1 ≤ c := by omega
 have hin1 : (i : Int) + 1 ≤ (n : Int) + 1 := by omega
 have hin2 : (i : Int) ≤ (n : Int) + 1 := by omega
 clear hov hcp1 hcp2 hfin ha hb hend hW1 hcell1 hm hown hv hvh hgh hsa hsb hcs hsp h1 hxl
 have hfol : Tryz.prog.follows Departure.mixedOrders = true := by kernel_rfl
 go_enter Tryz.func134, Tryz.ntmps134
 go_wp2_with (simp only [Hov.out])
 go_region_law_o (refine step_copy_at rfl _ _ 39 39 rfl (.slice (some ⟨g, i + 1, none⟩) (n - i) (c - (i + 1))) (.slice (some ⟨g, i, none⟩) (n + 1 - i) (c - i)) (by simp [Act.eval, Act.put]) (by simp [Act.eval, Act.put]) (Hcp1.out _ (c - (i + 1)) (c - i) (n + 1 - i) (by omega)) ?_)
 have Hcp3 := Hcp2.out W1 (fun _ => rfl) (fun _ => rfl) 3 (n + 1 - i) (c - i) (by omega)
 go_wp2_with (simp only [Hcp3])
 go_ret
 exact ⟨_, _, rfl, Hfin.out.1, Hfin.out.2⟩
theorem drew_setCells (b : Nat) : ∀ (vs : List Value) (o : Nat) (w : World), (w.setCells b o vs).drew = w.drew.setCells b o vs
 | [], _, _ => rfl
 | v :: r, o, w => by rw [World.setCells, World.setCells, drew_setCells b r]; rfl
set_option maxHeartbeats 4000000 in
theorem insC_grow (B g n c i : Nat) (xs : List Value) (v : Int) (vb : Nat) (w : World) (hown : w.ownsRow B 3 1 (.slice (some ⟨g, 0, none⟩) n c) n xs) (hB : B ≤ w.heap.size) (hv : Bx w vb #[.int .i64 v]) (hi : i < n) (hroom : c < n + 1) (h1 : ∀ u ∈ xs, u.oneCell' = true) (hn : n ≤ 1000000) :
  Calls Tryz.prog 134 #[.slice (some ⟨g, 0, none⟩) n c, .int .i64 (i : Nat), .slice (some ⟨vb, 0, none⟩) 1 1] w (InsPost w B (some g) n (xs.take i ++ .int .i64 v :: xs.drop i)) := by
 have hxl : xs.length = n := by have := hown.1; omega
 have hnc := own_le hown
 obtain ⟨i0, hi0, hz0, hzs, hzb⟩ := info_parts (P := Tryz.prog) (e := 3) int_elem
 have hbw : g < w.heap.size := by
  rcases hown.2 with ⟨h', h''⟩ | ⟨g', cap, cur, h', _, hh, h2, h3, h4, _⟩
  ·omega
  ·injection h' with h' _ h''
   injection h' with h'
   injection h' with h'
   subst h'
   exact (Array.getElem?_eq_some_iff.1 hh).1
 have hvw := hv.lt
 have hcs : ∀ j u, xs[j]? = some u → w.cell? ⟨g, j, none⟩ = some u := fun j u hu => by rw [hown.cellAt _ (by have := (List.getElem?_eq_some_iff.1 hu).1; omega)]; exact hu
 have hsz : (Tryz.prog.info? 3).map (·.size) = some 1 := by rw [hi0]; simp [hzs]
 have hik : i + (n + 1 - i) = n + 1 := by omega
 have hold : (Builtin.firstCells i0.size i (.slice (some ⟨g, 0, none⟩) i c)).run Tryz.prog w.drew = .ok (xs.take i).toArray w.drew := by
  rw [hzs]
  exact run_firstCells_some w.drew 1 i ⟨g, 0, none⟩ i c (xs.take i) (by rw [List.length_take]; omega) (fun j u hj => by
   rw [Addr.add_lit, Nat.zero_add]
   rw [List.getElem?_take] at hj
   split at hj
   ·exact hcs j u hj
   ·cases hj)
 have hrz : ∀ ty, (Builtin.append_ #[39, 3] ty #[.slice (some ⟨g, 0, none⟩) i c, .int .i64 ((n + 1 - i : Nat) : Int)]).run Tryz.prog w =
   .ok (.slice (some ⟨w.heap.size, 0, none⟩) (n + 1) (grownCap w (n + 1) c 3)) (w.drew.alloc (.cells ((xs.take i).toArray ++ Builtin.zeroCells (Value.int .i64 0).cells (n + 1 - i) ++ Builtin.zeroCells (Value.int .i64 0).cells (grownCap w (n + 1) c 3 - (n + 1))) 3)) := fun ty => by
  have h := Lib.run_append_grow_zeros w 39 3 ty 3 i0 _ .i64 .i64 Tryz.underlying39 Tryz.underlying3 hi0 hz0 (some ⟨g, 0, none⟩) i c (xs.take i) hold (n + 1 - i) (by omega) (by omega) (by omega) (by omega) (by rw [hzb]; omega) (by rw [hzb, hik]; exact growslice_fits hroom (by omega))
  rw [hik] at h
  exact h
 obtain ⟨G, hG⟩ : ∃ G, G = grownCap w (n + 1) c 3 := ⟨_, rfl⟩
 obtain ⟨ROW, hROW⟩ : ∃ ROW : Array Value, ROW = (xs.take i).toArray ++ Builtin.zeroCells (Value.int .i64 0).cells (n + 1 - i) ++ Builtin.zeroCells (Value.int .i64 0).cells (G - (n + 1)) := ⟨_, rfl⟩
 rw [← hG] at hrz
 rw [← hROW] at hrz
 have hGn : n + 1 ≤ G := by rw [hG]; exact grownCap_ge w _ _ _
 have hGm : G ≤ maxLen := by
  rw [hG]
  exact grownCap_le_maxLen w (n + 1) c 3 (by unfold maxLen; omega)
 have hG63 : G ≤ 9223372036854775807 := by simpa [maxLen] using hGm
 have hRs : ROW.size = G := by
  rw [hROW]
  simp [Builtin.zeroCells, Value.cells]
  omega
 have hRt : ROW.toList.take i = xs.take i := by
  rw [hROW]
  simp only [Array.toList_append, List.append_assoc]
  rw [List.take_append_of_le_length (by simp; omega), List.take_take, Nat.min_self]
 obtain ⟨W1, hW1⟩ : ∃ W1, W1 = w.drew.alloc (.cells ROW 3) := ⟨_, rfl⟩
 rw [← hW1] at hrz
 have hown1 : W1.ownsRow B 3 1 (.slice (some ⟨w.heap.size, 0, none⟩) (n + 1) G) (n + 1) (ROW.toList.take (n + 1)) := by
  refine ⟨by simp; omega, .inr ⟨w.heap.size, G, ROW, rfl, hB, by rw [hW1]; exact heap_alloc_new w.drew _, hGn, hGm, by omega, by rw [Nat.mul_one]⟩⟩
 have hg1 : w.grownBy W1 (some g) := by
  subst hW1
  exact ⟨rfl, rfl, rfl, by simp, fun k hk _ => Below.heap_alloc w.drew _ k hk⟩
 have ha := own_setCells (w := w) (xs := xs) [.int .i64 v] W1 _ i hown1
 have hb := own_setCells (w := w) (xs := xs) (xs.drop i) (W1.setCells w.heap.size i [.int .i64 v]) _ (i + 1) ha.1
 have hend : lays (lays (ROW.toList.take (n + 1)) i [.int .i64 v]) (i + 1) (xs.drop i) = xs.take i ++ .int .i64 v :: xs.drop i := by
  have hl : (ROW.toList.take (n + 1)).length = n + 1 := by simp; omega
  rw [lays_eq (xs.drop i) _ _ (by rw [lays_length, hl]; simp; omega), lays_eq [.int .i64 v] _ _ (by rw [hl]; simp; omega)]
  have e0 : (ROW.toList.take (n + 1)).take i = xs.take i := by rw [List.take_take, show min i (n + 1) = i by omega, hRt]
  have e2 : (xs.take i).length = i := by simp; omega
  rw [e0]
  have e3 : (xs.take i ++ [Value.int .i64 v]).length = i + 1 := by simp; omega
  have e4 : (List.take i xs ++ [Value.int .i64 v] ++ List.drop (i + [Value.int .i64 v].length) (ROW.toList.take (n + 1))).drop (i + 1 + (xs.drop i).length) = [] := List.drop_of_length_le (by rw [List.length_append, e3, List.length_drop, hl, List.length_drop]; simp; omega)
  rw [e4, List.take_append_of_le_length (by rw [e3]; omega), List.take_of_length_le (by rw [e3]; omega), List.append_nil, List.append_assoc]
  rfl
 rw [hend] at hb
 have hfin : (((W1.setCells w.heap.size i [.int .i64 v]).setCells w.heap.size (i + 1) (xs.drop i)).ownsRow B 3 1 (.slice (some ⟨w.heap.size, 0, none⟩) (n + 1) G) (n + 1) (xs.take i ++ .int .i64 v :: xs.drop i)) ∧ w.grownBy ((W1.setCells w.heap.size i [.int .i64 v]).setCells w.heap.size (i + 1) (xs.drop i)) (some g) := by
  refine ⟨hb.1, hb.2.os.trans (ha.2.os.trans hg1.os), hb.2.tape.trans (ha.2.tape.trans hg1.tape), hb.2.output.trans (ha.2.output.trans hg1.output), Nat.le_trans hg1.size (Nat.le_trans ha.2.size hb.2.size), fun k hk hne => ?_⟩
  have h1 := Nat.lt_of_lt_of_le hk hg1.size
  have h2 : ¬ (some k = some w.heap.size) := by intro e; injection e; omega
  exact ((hb.2.block k (Nat.lt_of_lt_of_le h1 ha.2.size) h2).trans (ha.2.block k h1 h2)).trans (hg1.block k hk hne)
 have hOv : W1.cell? ⟨vb, 0, none⟩ = some (.int .i64 v) := by rw [hW1, World.cell?_alloc_past (w := w.drew) _ vb 0 hvw]; exact hv.c 0
 have hOb : ∀ j u, w.cell? ⟨g, j, none⟩ = some u → W1.cell? ⟨g, j, none⟩ = some u := fun j u h => by rw [hW1, World.cell?_alloc_past (w := w.drew) _ g j hbw]; exact h
 have hbN : g ≠ w.heap.size := by omega
 have hdl : (xs.drop i).length = n - i := by rw [List.length_drop, hxl]
 have hcpA : ∀ (W : World), (∀ x, W.cell? x = W1.cell? x) → (∀ x, W.frozen? x = W1.frozen? x) → ∀ ty dl dc, 1 ≤ dl → (Builtin.copy_ #[39, 25] ty #[.slice (some ⟨w.heap.size, i, none⟩) dl dc, .slice (some ⟨vb, 0, none⟩) 1 1]).run Tryz.prog W = .ok (goInt 1) (W.setCells w.heap.size i [.int .i64 v]) := fun W hWc hWf ty dl dc hdl =>
  run_copy_cells W _ _ ty 3 w.heap.size i dl dc ⟨vb, 0, none⟩ 1 1 [.int .i64 v] Tryz.underlying39 hsz (by simp [Nat.min_def]; omega)
   (fun j u hj => by
    rcases j with _ | j
    ·simp at hj; subst hj; rw [Addr.add_lit, hWc]; exact hOv
    ·simp at hj)
   (fun j hj => by rw [hWc]; exact own_isSome hown1 _ (by simp at hj; omega))
   (fun j hj => by rw [hWf]; exact hown1.frozenAt _) (by intro u hu; simp only [List.mem_cons, List.not_mem_nil, or_false] at hu; subst hu; rfl)
 have hcpB : ∀ (W : World), (∀ x, W.cell? x = (W1.setCells w.heap.size i [.int .i64 v]).cell? x) → (∀ x, W.frozen? x = (W1.setCells w.heap.size i [.int .i64 v]).frozen? x) → ∀ ty dc sl sc, n - i ≤ sl → (Builtin.copy_ #[39, 39] ty #[.slice (some ⟨w.heap.size, i + 1, none⟩) sl dc, .slice (some ⟨g, i, none⟩) (n - i) sc]).run Tryz.prog W = .ok (goInt (xs.drop i).length) (W.setCells w.heap.size (i + 1) (xs.drop i)) := fun W hWc hWf ty dc sl sc hsl =>
  run_copy_cells W _ _ ty 3 w.heap.size (i + 1) sl dc ⟨g, i, none⟩ (n - i) sc (xs.drop i) Tryz.underlying39 hsz (by rw [hdl]; simp only [Nat.min_def]; split <;> omega)
   (fun j u hj => by
    rw [Addr.add_lit, hWc, World.cell?_setCells_out _ _ _ _ _ (fun h _ => absurd h hbN)]
    exact hOb _ u (hcs (i + j) u (by rwa [List.getElem?_drop] at hj)))
   (fun j hj => by rw [hWc]; exact own_isSome ha.1 _ (by omega))
   (fun j hj => by rw [hWf]; exact ha.1.frozenAt _) (fun u hu => h1 u (List.mem_of_mem_drop hu))
 have Hrz := Lib.hid hrz
 have HcpA := Lib.hid hcpA
 have HcpB := Lib.hid hcpB
 have Hfin := Lib.hid hfin
 have Hd := Lib.hid (drew_setCells w.heap.size [.int .i64 v] i W1)
 have hkk : (n : Int) + 1 - (i : Int) = ((n + 1 - i : Nat) : Int) := by omega
 have hw1 : IntKind.i64.wrap ((i : Int) + 1) = (i : Int) + 1 := by rw [IntKind.wrap_i64]; omega
 have hw2 : IntKind.i64.wrap ((n : Int) + 1) = (n : Int) + 1 := by rw [IntKind.wrap_i64]; omega
 have hz2 : ((i : Int) == (n : Int)) = false := by simp; omega
 have hz3 : decide ((c : Int) < (n : Int) + 1) = true := decide_eq_true (by omega)
 have htn : ((i : Int) + 1).toNat = i + 1 := by omega
 have hGi : ¬ (G = i) := by omega
 have hGim : ¬ (G = i + 1) := by omega
 have hci : ¬ (c = i) := by omega
 have hi0' : (0 : Int) ≤ i := by omega
 have hi1 : (0 : Int) ≤ (i : Int) + 1 := by omega
 have hin : i ≤ n := by omega
 have hic : i ≤ c := by omega
 have hinI : (i : Int) ≤ n := by omega
 have hin1 : (i : Int) + 1 ≤ (n : Int) + 1 := by omega
 clear hrz hcpA hcpB hfin hb hend hold hOv hOb hown hv hcs h1 hxl hG hROW hRs hRt hg1 ha hown1
 subst hW1
 have hfol : Tryz.prog.follows Departure.mixedOrders = true := by kernel_rfl
 go_enter Tryz.func134, Tryz.ntmps134
 have HA2 := HcpA.out ((w.alloc (.cells ROW 3)).drew) (fun _ => rfl) (fun _ => rfl) 3 (n + 1 - i) (G - i) (by omega)
 go_wp2_with (first
  | (at_builtin; refine Lib.wpList_append_run _ rfl _ _ _ _ rfl _ _ rfl rfl _ _ (Hrz.out _) ?_)
  | simp only [HA2])
 go_region_law_o (refine step_copy_at rfl _ _ 39 39 rfl (.slice (some ⟨w.heap.size, i + 1, none⟩) (n - i) (G - (i + 1))) (.slice (some ⟨g, i, none⟩) (n - i) (c - i)) (by simp [Act.eval, Act.put]) (by simp [Act.eval, Act.put]) (HcpB.out (((w.alloc (.cells ROW 3)).drew.setCells w.heap.size i [Value.int .i64 v]).drew) (fun _ => rfl) (fun _ => rfl) _ (G - (i + 1)) (n - i) (c - i) (by omega)) ?_)
 go_wp2_with fail
 go_ret
 have hf := Hfin.out
 have e : ((w.alloc (.cells ROW 3)).drew.setCells w.heap.size i [Value.int .i64 v]).drew.setCells w.heap.size (i + 1) (xs.drop i) = (((w.drew.alloc (.cells ROW 3)).setCells w.heap.size i [Value.int .i64 v]).setCells w.heap.size (i + 1) (xs.drop i)).drew := by
  rw [drew_setCells, drew_setCells, drew_setCells]
  rfl
 rw [e]
 exact ⟨_, _, rfl, hf.1.drew, ⟨hf.2.os, hf.2.tape, hf.2.output, hf.2.size, hf.2.block⟩⟩
theorem insC_any (B : Nat) (A : Option Addr) (n c i : Nat) (xs : List Value) (v : Int) (vb : Nat) (w : World) (hown : w.ownsRow B 3 1 (.slice A n c) n xs) (hB : B ≤ w.heap.size) (hv : Bx w vb #[.int .i64 v]) (hvg : ∀ b, A.map (·.block) = some b → vb ≠ b) (hi : i ≤ n) (h1 : ∀ u ∈ xs, u.oneCell' = true) (hn : n ≤ 1000000) :
  Calls Tryz.prog 134 #[.slice A n c, .int .i64 (i : Nat), .slice (some ⟨vb, 0, none⟩) 1 1] w (InsPost w B (A.map (·.block)) n (xs.take i ++ .int .i64 v :: xs.drop i)) := by
 have hxl : xs.length = n := by have := hown.1; omega
 by_cases hin : i = n
 ·subst hin
  have := insC_end B A i c xs v vb w hown hB hv hn
  rw [List.take_of_length_le (by omega), List.drop_of_length_le (by omega)]
  exact this
 ·obtain ⟨g, rfl⟩ : ∃ g, A = some ⟨g, 0, none⟩ := by
   rcases hown.2 with ⟨h', h''⟩ | ⟨g', _, _, h', _⟩
   ·omega
   ·injection h' with h' _ _
    exact ⟨g', h'⟩
  by_cases hc : n + 1 ≤ c
  ·exact insC_shift B g n c i xs v vb w hown hv (hvg g rfl) (by omega) hc h1 hn
  ·exact insC_grow B g n c i xs v vb w hown hB hv (by omega) (by omega) h1 hn
end Go.Proofs.YtmhaahcbmdhinaaGreatDoor
namespace Go.Proofs.YtmhaahcbmdhinaaGreatDoor
open Go.RowKit
set_option maxRecDepth 100000
set_option linter.unusedVariables false
set_option linter.unusedSimpArgs false
def ModPost (W : World) (r : Int × List Int) (e : Ending) (w' : World) : Prop :=
 ∃ A c, e = .returned (.tuple #[.slice A r.2.length c, errC r.1]) ∧ w'.ownsRow W.heap.size 3 1 (.slice A r.2.length c) r.2.length (ii r.2) ∧ Below W.heap.size W w'
theorem cadd_any (A : Option Addr) (n c : Nat) (l : List Int) (z : Int) (w : World) {ok : Nat → Prop} (hr : Rd w ok 1 A n (ii l)) (hn : n ≤ 1000000) :
  Calls Tryz.prog 73 #[.slice A n c, .int .i64 z] w (ModPost w (addOf l z)) := by
 have hs := search_any A n c l z w hr hn
 have hm := cmay_any A n c l w hr hn
 have hcl := cloneC_any A n c l w hr hn
 have hll := ii_len hr
 by_cases hc : cmay l = true
 ·have hp := (cmay_iff.1 hc).2.1
  rw [hc] at hm
  have Hs := Lib.hid hs
  have Hm := Lib.hid hm
  have Hcl := Lib.hid hcl
  have Hp := Lib.hid hp
  clear hs hm hcl hp hr
  by_cases h1 : z < 1
  ·have hq : addOf l z = (1, []) := by unfold addOf; rw [if_pos (.inr (.inl h1))]
   have Hq := Lib.hid hq
   clear hq hc
   go_enter Tryz.func73, Tryz.ntmps73
   go_wp2_with fail
   refine Hs.out.mono ?_
   rintro e w1 ⟨k, b, rfl, hk, hkl, rfl⟩
   have Hk := Lib.hid hk
   clear hk
   go_wp2_with fail
   refine Hm.out.mono ?_
   rintro e w1 ⟨rfl, rfl⟩
   go_wp2_with fail
   go_ret2
   rw [Hq.out]
   exact ⟨_, _, rfl, World.ownsRow_nil _ _ _ _, Below.refl _ _⟩
  ·have h1d : decide (z < 1) = false := decide_eq_false h1
   by_cases h2 : 64 < z
   ·have hq : addOf l z = (1, []) := by unfold addOf; rw [if_pos (.inr (.inr h2))]
    have Hq := Lib.hid hq
    clear hq hc
    go_enter Tryz.func73, Tryz.ntmps73
    go_wp2_with fail
    refine Hs.out.mono ?_
    rintro e w1 ⟨k, b, rfl, hk, hkl, rfl⟩
    have Hk := Lib.hid hk
    clear hk
    go_wp2_with fail
    refine Hm.out.mono ?_
    rintro e w1 ⟨rfl, rfl⟩
    go_wp2_with fail
    go_ret2
    rw [Hq.out]
    exact ⟨_, _, rfl, World.ownsRow_nil _ _ _ _, Below.refl _ _⟩
   ·have h2d : decide (64 < z) = false := decide_eq_false h2
    by_cases h3 : z ∈ l
    ·have hq : addOf l z = (9, []) := by unfold addOf; rw [if_neg (by rw [hc]; simp; omega), if_pos h3]
     have hd : decide (z ∈ l) = true := decide_eq_true h3
     have Hd := Lib.hid hd
     have Hq := Lib.hid hq
     clear hq hc h3 hd
     go_enter Tryz.func73, Tryz.ntmps73
     go_wp2_with fail
     refine Hs.out.mono ?_
     rintro e w1 ⟨k, b, rfl, hk, hkl, rfl⟩
     obtain ⟨rfl, rfl⟩ := hk Hp.out
     rw [Hd.out]
     go_wp2_with fail
     refine Hm.out.mono ?_
     rintro e w1 ⟨rfl, rfl⟩
     go_wp2_with fail
     go_ret2
     rw [Hq.out]
     exact ⟨_, _, rfl, World.ownsRow_nil _ _ _ _, Below.refl _ _⟩
    ·have hd : decide (z ∈ l) = false := decide_eq_false h3
     by_cases h4 : 7 ≤ n
     ·have hq : addOf l z = (10, []) := by unfold addOf; rw [if_neg (by rw [hc]; simp; omega), if_neg h3, if_pos (by omega)]
      have h4I : (7 : Int) ≤ n := by omega
      have Hd := Lib.hid hd
      have Hq := Lib.hid hq
      clear hq hc h3 hd
      go_enter Tryz.func73, Tryz.ntmps73
      go_wp2_with fail
      refine Hs.out.mono ?_
      rintro e w1 ⟨k, b, rfl, hk, hkl, rfl⟩
      obtain ⟨rfl, rfl⟩ := hk Hp.out
      rw [Hd.out]
      go_wp2_with fail
      refine Hm.out.mono ?_
      rintro e w1 ⟨rfl, rfl⟩
      go_wp2_with fail
      go_ret2
      rw [Hq.out]
      exact ⟨_, _, rfl, World.ownsRow_nil _ _ _ _, Below.refl _ _⟩
     ·have hq : addOf l z = (0, ins z l) := by unfold addOf; rw [if_neg (by rw [hc]; simp; omega), if_neg h3, if_neg (by omega)]
      have h4I : ¬ ((7 : Int) ≤ n) := by omega
      have h4d : decide ((7 : Int) ≤ n) = false := decide_eq_false h4I
      have hlow := low_le z l
      have Hd := Lib.hid hd
      have Hq := Lib.hid hq
      clear hq hc h3 hd h4I
      go_enter Tryz.func73, Tryz.ntmps73
      go_wp2_with fail
      refine Hs.out.mono ?_
      rintro e w1 ⟨k, b, rfl, hk, hkl, rfl⟩
      obtain ⟨hk1, rfl⟩ := hk Hp.out
      rw [Hd.out]
      have Hk1 := Lib.hid hk1
      clear hk1 hk
      go_wp2_with fail
      refine Hm.out.mono ?_
      rintro e w1 ⟨rfl, rfl⟩
      go_wp2_with fail
      refine Hcl.out.mono ?_
      rintro e w1 ⟨A1, c1, rfl, hown1, hb1⟩
      have Ho := Lib.hid hown1
      clear hown1
      go_wp2_with fail
      have hz1 := hb1.size
      have hI := insC_any w.heap.size A1 n c1 k (ii l) z w1.heap.size (w1.alloc (.cells #[.int .i64 z] 3)) (Ho.out.alloc _) (by simp; omega) (Bx.new w1 _ _ (by simp)) (fun b hb => by have := own_lt Ho.out b hb; omega) (by have := Hk1.out; omega) (ii_one l) hn
      refine hI.mono ?_
      rintro e w2 ⟨A2, c2, rfl, hown2, hg2⟩
      clear hI
      go_wp2_with fail
      go_ret2
      have hlen : (ins z l).length = n + 1 := by rw [ins_length, hll]
      have hii : ii (ins z l) = (ii l).take k ++ .int .i64 z :: (ii l).drop k := by rw [Hk1.out]; unfold ins ii; simp only [List.map_append, List.map_cons, List.map_take, List.map_drop]
      rw [Hq.out]
      refine ⟨A2, c2, ?_, ?_, (hb1.alloc hz1 _).grown hg2 (by simp; omega) (fun k hk => (own_lt Ho.out k hk).1)⟩
      ·show Ending.returned (.tuple #[.slice A2 (n + 1) c2, _]) = .returned (.tuple #[.slice A2 (ins z l).length c2, _])
       rw [hlen]
       rfl
      ·show w2.ownsRow _ _ _ (.slice A2 (ins z l).length c2) (ins z l).length (ii (ins z l))
       rw [hlen, hii]
       exact hown2
 ·have hcf : cmay l = false := by simpa using hc
  rw [hcf] at hm
  have hq : addOf l z = (1, []) := by unfold addOf; rw [if_pos (.inl hcf)]
  have Hq := Lib.hid hq
  have Hs := Lib.hid hs
  have Hm := Lib.hid hm
  clear hq hc hcf hs hm hr hcl
  go_enter Tryz.func73, Tryz.ntmps73
  go_wp2_with fail
  refine Hs.out.mono ?_
  rintro e w1 ⟨k, b, rfl, hk, hkl, rfl⟩
  have Hk := Lib.hid hk
  clear hk
  go_wp2_with fail
  refine Hm.out.mono ?_
  rintro e w1 ⟨rfl, rfl⟩
  go_wp2_with fail
  go_ret2
  rw [Hq.out]
  exact ⟨_, _, rfl, World.ownsRow_nil _ _ _ _, Below.refl _ _⟩
theorem crem_any (A : Option Addr) (n c : Nat) (l : List Int) (z : Int) (w : World) {ok : Nat → Prop} (hr : Rd w ok 1 A n (ii l)) (hn : n ≤ 1000000) :
  Calls Tryz.prog 74 #[.slice A n c, .int .i64 z] w (ModPost w (remOf l z)) := by
 have hs := idxC_any A n c l z w hr hn
 have hm := cmay_any A n c l w hr hn
 have hcl := cloneC_any A n c l w hr hn
 have hll := ii_len hr
 by_cases hc : cmay l = true
 ·have hp := (cmay_iff.1 hc).2.1
  rw [hc] at hm
  have Hs := Lib.hid hs
  have Hm := Lib.hid hm
  have Hcl := Lib.hid hcl
  have Hp := Lib.hid hp
  clear hs hm hcl hp hr
  by_cases h3 : z ∈ l
  ·by_cases h4 : l.length = 1
   ·have hq : remOf l z = (1, []) := by unfold remOf; rw [if_neg (by rw [hc]; simp), if_neg (by simpa using h3), if_pos h4]
    obtain rfl : n = 1 := by omega
    have Hq := Lib.hid hq
    have H3 := Lib.hid h3
    clear hq hc h4 hll h3
    go_enter Tryz.func74, Tryz.ntmps74
    go_wp2_with fail
    refine Hs.out.mono ?_
    rintro e w1 ⟨k, rfl, hk, rfl⟩
    rcases hk with ⟨i, rfl, h1, _⟩ | ⟨rfl, h1⟩
    ·have H1 := Lib.hid h1
     have hi0 : ¬ ((i : Int) < 0) := by omega
     clear h1
     go_wp2_with fail
     refine Hm.out.mono ?_
     rintro e w1 ⟨rfl, rfl⟩
     go_wp2_with fail
     go_ret2
     rw [Hq.out]
     exact ⟨_, _, rfl, World.ownsRow_nil _ _ _ _, Below.refl _ _⟩
    ·exact absurd H3.out h1
   ·have hq : remOf l z = (0, del z l) := by unfold remOf; rw [if_neg (by rw [hc]; simp), if_neg (by simpa using h3), if_neg h4]
    have h4d : ((n : Int) == 1) = false := by simp; omega
    have hlen : (del z l).length = n - 1 := by have := del_length Hp.out h3; omega
    have Hq := Lib.hid hq
    have H3 := Lib.hid h3
    have Hlen := Lib.hid hlen
    clear hq hc h4 h3 hlen
    go_enter Tryz.func74, Tryz.ntmps74
    go_wp2_with fail
    refine Hs.out.mono ?_
    rintro e w1 ⟨k, rfl, hk, rfl⟩
    rcases hk with ⟨i, rfl, h1, _⟩ | ⟨rfl, h1⟩
    ·have H1 := Lib.hid h1
     have hi0 : ¬ ((i : Int) < 0) := by omega
     have hin : i < n := by have := (List.getElem?_eq_some_iff.1 h1).1; omega
     have hx1 : IntKind.i64.wrap ((i : Int) + 1) = (i : Int) + 1 := by rw [IntKind.wrap_i64]; omega
     clear h1
     go_wp2_with fail
     refine Hm.out.mono ?_
     rintro e w1 ⟨rfl, rfl⟩
     go_wp2_with fail
     refine Hcl.out.mono ?_
     rintro e w1 ⟨A1, c1, rfl, hown1, hb1⟩
     have Ho := Lib.hid hown1
     clear hown1
     go_wp2_with fail
     refine (delC_any w.heap.size A1 n c1 (ii l) i w1 Ho.out hin (ii_one l) hn).mono ?_
     rintro e w2 ⟨rfl, hown2, hg2⟩
     go_wp2_with fail
     go_ret2
     have hz1 := hb1.size
     have hii : ii (del z l) = (ii l).take i ++ (ii l).drop (i + 1) := by rw [del_at Hp.out H1.out]; unfold ii; simp only [List.map_append, List.map_take, List.map_drop]
     rw [Hq.out]
     refine ⟨A1, c1, ?_, ?_, hb1.grown hg2 (by omega) (fun k hk => (own_lt Ho.out k hk).1)⟩
     ·show Ending.returned (.tuple #[.slice A1 (n - 1) c1, _]) = .returned (.tuple #[.slice A1 (del z l).length c1, _])
      rw [Hlen.out]
      rfl
     ·show w2.ownsRow _ _ _ (.slice A1 (del z l).length c1) (del z l).length (ii (del z l))
      rw [Hlen.out, hii]
      exact hown2
    ·exact absurd H3.out h1
  ·have hq : remOf l z = (8, []) := by unfold remOf; rw [if_neg (by rw [hc]; simp), if_pos h3]
   have Hq := Lib.hid hq
   have H3 := Lib.hid h3
   clear hq hc h3 hll
   go_enter Tryz.func74, Tryz.ntmps74
   go_wp2_with fail
   refine Hs.out.mono ?_
   rintro e w1 ⟨k, rfl, hk, rfl⟩
   rcases hk with ⟨i, rfl, h1, _⟩ | ⟨rfl, h1⟩
   ·exact absurd (List.mem_of_getElem? h1) H3.out
   ·clear h1
    go_wp2_with fail
    refine Hm.out.mono ?_
    rintro e w1 ⟨rfl, rfl⟩
    go_wp2_with fail
    go_ret2
    rw [Hq.out]
    exact ⟨_, _, rfl, World.ownsRow_nil _ _ _ _, Below.refl _ _⟩
 ·have hcf : cmay l = false := by simpa using hc
  rw [hcf] at hm
  have hq : remOf l z = (1, []) := by unfold remOf; rw [if_pos hcf]
  have Hq := Lib.hid hq
  have Hs := Lib.hid hs
  have Hm := Lib.hid hm
  clear hq hc hcf hs hm hr hcl hll
  go_enter Tryz.func74, Tryz.ntmps74
  go_wp2_with fail
  refine Hs.out.mono ?_
  rintro e w1 ⟨k, rfl, hk, rfl⟩
  have Hk := Lib.hid hk
  clear hk
  go_wp2_with fail
  refine Hm.out.mono ?_
  rintro e w1 ⟨rfl, rfl⟩
  go_wp2_with fail
  go_ret2
  rw [Hq.out]
  exact ⟨_, _, rfl, World.ownsRow_nil _ _ _ _, Below.refl _ _⟩
set_option maxHeartbeats 12800000 in
theorem deed_member {fb n gb : Nat} {span : Int} {p : Nat → Nat} {w : World} {g : Gs} {F : Nat → Prop} {k : Nat} (kd who N draw : Int) (h : GrIs fb w n gb span p g F) (ho : GOk n k g) (hk : k + 60 ≤ 1000000) (hn : 1 ≤ n ∧ n ≤ 7) (hkd : (IntKind.u64.wrap kd).tmod 17 = 13) :
  Calls Tryz.prog 30 #[.pointer (some ⟨gb, 0, none⟩), .int .i64 (n : Int), .agg #[.int .i64 kd, .int .i64 who, .int .i64 N, .int .i64 draw]] w (DeedPost fb w n gb span F (k + 60) (Does n g)) := by
 obtain ⟨q, hq, wn, ht, wq⟩ := umod_n who (n := n) (by omega) (by omega)
 obtain ⟨W0, hW0⟩ : ∃ W0, W0 = w.alloc (.cells (dcells kd who N draw) 92) := ⟨_, rfl⟩
 have z0 : Bx W0 w.heap.size (dcells kd who N draw) := by subst hW0; exact Bx.new _ _ _ rfl
 have b0 : Below w.heap.size w W0 := by subst hW0; exact (Below.refl _ _).alloc (Nat.le_refl _) _
 have g0 : GrIs fb W0 n gb span p g (fun b => F b ∨ b = w.heap.size) := h.more_f (by omega) b0 fun b hb => hb.imp_right fun e => by have := z0.lt; omega
 have kf0 : KeepF F w W0 := KeepF.of_below b0 h.fin
 have F0 : Hid (∀ W, Kept (fun b => b ≠ gb ∧ b ≠ w.heap.size) W0 W → W.cell? ⟨gb, q, none⟩ = some (.pointer (some ⟨p q, 0, none⟩))) := Lib.hid fun W hb => by
  have hl := World.block_lt_of_cell? W0 _ (g0.ptr hq hn.2)
  have h9 := g0.ptr hq hn.2
  unfold World.cell? at h9 ⊢
  rw [hb.block gb hl (fun e => e.1 rfl)]
  exact h9
 have c0 := g0.ptr hq hn.2
 obtain ⟨d0, d1, d2, d3⟩ := z0.d4
 have hq0 : (0 : Int) ≤ (q : Int) := by omega
 have hq7 : (q : Int) < 7 := by omega
 have H := Lib.hid (And.intro g0 (And.intro kf0 (And.intro z0 (And.intro ho (And.intro hk (And.intro hn hq))))))
 have HW0 := hW0
 unfold dcells at HW0
 clear z0 b0 g0 kf0 h hW0 F0
 go_enter Tryz.func30, Tryz.ntmps30
 go_upto_region 1 with (fail)
 rw [← HW0]
 clear HW0
 obtain ⟨v, hv, _, hvt, _⟩ := umod_n N (n := n) (by omega) (by omega)
 have hv1 : IntKind.i64.wrap (1 + (v : Int)) = 1 + (v : Int) := by rw [IntKind.wrap_i64]; omega
 go_upto_region 22 with (fail)
 go_wp2_with fail
 refine (gconf_any H.out.1 H.out.2.2.2.2.2.2 (H.out.2.2.2.1 q H.out.2.2.2.2.2.2)).mono ?_
 rintro e w1 ⟨A1, n1, c1, rfl, o1, b1⟩
 obtain ⟨L, hL⟩ : ∃ L, L = (g.C q).members := ⟨_, rfl⟩
 rw [← hL] at o1
 have hLm : L.length ≤ 7 := by rw [hL]; exact (cmay_iff.1 (members_may (H.out.2.2.2.1 q H.out.2.2.2.2.2.2).may)).2.2.2
 have l1 : n1 ≤ 7 := by have h9 := (Rd.of_own o1).1; simp [ii] at h9; omega
 have M1 := Lib.hid (And.intro o1 (And.intro b1 hL))
 clear o1 b1 hL
 go_wp2_with fail
 refine (cadd_any A1 n1 c1 L (1 + (v : Int)) w1 (Rd.of_own M1.out.1) (by omega)).mono ?_
 rintro e w2 ⟨A2, c2, rfl, o2, b2⟩
 obtain ⟨r2, hr2⟩ : ∃ r2, addOf L (1 + (v : Int)) = r2 := ⟨_, rfl⟩
 rw [hr2] at o2 ⊢
 have hr2l : r2.2.length ≤ 8 := by
  rw [← hr2]
  unfold addOf
  split
  ·exact Nat.zero_le _
  ·split
   ·exact Nat.zero_le _
   ·split
    ·exact Nat.zero_le _
    ·show (ins _ L).length ≤ 8; rw [ins_length]; omega
 have M2 := Lib.hid (And.intro o2 (M1.out.2.1.trans (b2.mono M1.out.2.1.size)))
 clear o2 b2 hr2
 by_cases ha : r2.1 = 0
 ·have hE : errC r2.1 = .nilIface := by unfold errC; rw [if_pos ha]
  rw [hE]
  clear hE
  go_wp2_with fail
  refine (cenc_any _ _ _ r2.2 w2 (Rd.of_own M2.out.1) (by omega) (H.out.1.below M2.out.2).env.tab).mono ?_
  rintro e w5 ⟨A5, n5, c5, rfl, o5, b5⟩
  have cp5 := own_cp o5
  have HP := Lib.hid (And.intro o5 (And.intro b5 cp5))
  clear o5 b5 cp5
  go_wp2_with fail
  refine (gask_any ((H.out.1.below M2.out.2).below HP.out.2.1) H.out.2.2.2.2.2.2 (H.out.2.2.2.1 q H.out.2.2.2.2.2.2) 2 _ _ _ (confL r2.2) (Rd.of_own HP.out.1).any HP.out.2.2).mono ?_
  rintro e w6 ⟨A6, n6, c6, rfl, htc, hk6⟩
  go_wp2_with fail
  refine htc.mono ?_
  rintro e w7 ⟨rfl, hg7, hk7⟩
  go_wp2_with fail
  refine bodyPost_end (results_none rfl _ _ _) (by rfl) ?_
  exact ⟨rfl, _, p, hg7.less_f fun b hb => .inl hb, (H.out.2.2.2.1.asks H.out.2.2.2.2.2.2 2 (confL r2.2)).mono (by omega) (by have := H.out.2.2.2.2.1; omega), .asks g q 2 _ H.out.2.2.2.2.2.2 ⟨k, H.out.2.2.2.1 q H.out.2.2.2.2.2.2⟩, H.out.2.1.trans (((KeepF.of_below M2.out.2 H.out.1.fin).trans (KeepF.of_below HP.out.2.1 (H.out.1.below M2.out.2).fin)).trans hk7 |>.mono fun b hb => .inl hb)⟩

 ·have hE : errC r2.1 = .iface 105 (.int .i64 r2.1) := by unfold errC; rw [if_neg ha]
  rw [hE]
  clear hE
  go_wp2_with fail
  refine (gconf_any (H.out.1.below M2.out.2) H.out.2.2.2.2.2.2 (H.out.2.2.2.1 q H.out.2.2.2.2.2.2)).mono ?_
  rintro e w3 ⟨A3, n3, c3, rfl, o3, b3⟩
  rw [← M1.out.2.2] at o3
  have l3 : n3 ≤ 7 := by have h9 := (Rd.of_own o3).1; simp [ii] at h9; omega
  have M3 := Lib.hid (And.intro o3 (M2.out.2.trans (b3.mono M2.out.2.size)))
  clear o3 b3
  go_wp2_with fail
  refine (crem_any A3 n3 c3 L (1 + (v : Int)) w3 (Rd.of_own M3.out.1) (by omega)).mono ?_
  rintro e w4 ⟨A4, c4, rfl, o4, b4⟩
  obtain ⟨r4, hr4⟩ : ∃ r4, remOf L (1 + (v : Int)) = r4 := ⟨_, rfl⟩
  rw [hr4] at o4 ⊢
  have hr4l : r4.2.length ≤ 8 := by
   rw [← hr4]
   unfold remOf
   split
   ·exact Nat.zero_le _
   ·split
    ·exact Nat.zero_le _
    ·split
     ·exact Nat.zero_le _
     ·show (del _ L).length ≤ 8
      unfold del
      exact Nat.le_trans (List.length_filter_le _ _) (by omega)
  have M4 := Lib.hid (And.intro o4 (M3.out.2.trans (b4.mono M3.out.2.size)))
  clear o4 b4 hr4
  by_cases hb : r4.1 = 0
  ·have hE : errC r4.1 = .nilIface := by unfold errC; rw [if_pos hb]
   rw [hE]
   clear hE
   go_wp2_with fail
   refine (cenc_any _ _ _ r4.2 w4 (Rd.of_own M4.out.1) (by omega) (H.out.1.below M4.out.2).env.tab).mono ?_
   rintro e w5 ⟨A5, n5, c5, rfl, o5, b5⟩
   have cp5 := own_cp o5
   have HP := Lib.hid (And.intro o5 (And.intro b5 cp5))
   clear o5 b5 cp5
   go_wp2_with fail
   refine (gask_any ((H.out.1.below M4.out.2).below HP.out.2.1) H.out.2.2.2.2.2.2 (H.out.2.2.2.1 q H.out.2.2.2.2.2.2) 2 _ _ _ (confL r4.2) (Rd.of_own HP.out.1).any HP.out.2.2).mono ?_
   rintro e w6 ⟨A6, n6, c6, rfl, htc, hk6⟩
   go_wp2_with fail
   refine htc.mono ?_
   rintro e w7 ⟨rfl, hg7, hk7⟩
   go_wp2_with fail
   refine bodyPost_end (results_none rfl _ _ _) (by rfl) ?_
   exact ⟨rfl, _, p, hg7.less_f fun b hb => .inl hb, (H.out.2.2.2.1.asks H.out.2.2.2.2.2.2 2 (confL r4.2)).mono (by omega) (by have := H.out.2.2.2.2.1; omega), .asks g q 2 _ H.out.2.2.2.2.2.2 ⟨k, H.out.2.2.2.1 q H.out.2.2.2.2.2.2⟩, H.out.2.1.trans (((KeepF.of_below M4.out.2 H.out.1.fin).trans (KeepF.of_below HP.out.2.1 (H.out.1.below M4.out.2).fin)).trans hk7 |>.mono fun b hb => .inl hb)⟩

  ·have hE : errC r4.1 = .iface 105 (.int .i64 r4.1) := by unfold errC; rw [if_neg hb]
   rw [hE]
   clear hE
   go_wp2_with fail
   refine bodyPost_end (results_none rfl _ _ _) (by rfl) ?_
   exact ⟨rfl, g, p, (H.out.1.below M4.out.2).less_f fun b hb => .inl hb, H.out.2.2.2.1.mono (by omega) (by have := H.out.2.2.2.2.1; omega), .refl g, H.out.2.1.trans (KeepF.of_below M4.out.2 H.out.1.fin |>.mono fun b hb => .inl hb)⟩
end Go.Proofs.YtmhaahcbmdhinaaGreatDoor
