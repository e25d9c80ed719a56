/- slices.Clone, slices.Delete at members. -/
import Derived.Test.YtedcjakgdoiomaaDoorConf1
import Derived.Test.YtedcjakgdoiomaaDoorRow
namespace Go.Proofs.YtedcjakgdoiomaaDoor
open Go.RowKit
set_option linter.unusedVariables false
set_option linter.unusedSimpArgs false
set_option maxRecDepth 100000
theorem eqlC (w : World) (A : Option Addr) (n c : Nat) : (binOp .eql 24 (.slice A n c) (.slice none 0 0)).run Tryd.prog w = .ok (.bool A.isNone) w := Lib.run_eql_slice_nil w 24 3 A n c 0 0 Tryd.underlying24
attribute [local go_sem] eqlC
theorem cloneC_any (A : Option Addr) (n c : Nat) (l : List Int) (w : World) {ok : Nat → Prop} (hr : Rd w ok 1 A n (ii l)) (hn : n ≤ 1000000) :
    Calls Tryd.prog 21 #[.slice A n c] w (OwnPost w n l) := by
  have h1 := ii_one l
  cases A with
  | none =>
    obtain ⟨rfl, h0⟩ := hr.nil_of_none
    obtain rfl : l = [] := by simpa [ii] using h0
    go_enter Tryd.func21, Tryd.ntmps21
    go_wp2_with fail
    go_ret
    exact ⟨_, _, rfl, ⟨by simp [ii], .inl ⟨rfl, rfl⟩⟩, Below.refl _ _⟩
  | some ad =>
    go_enter Tryd.func21, Tryd.ntmps21
    go_wp2_with (at_builtin; refine wpList_append_any _ Tryd.underlying24 int_elem rfl (by omega) rfl rfl rfl (own_new w w.heap.size 3 1 (Nat.le_refl _)) rfl (hr.alloc _) h1 (by omega) (by simp) (Nat.zero_add _) (List.nil_append _) ?_; intro A1 c1 w1 hown1 hg1 hat1)
    go_ret
    exact ⟨_, _, rfl, hown1, ((Below.refl _ _).alloc (Nat.le_refl _) _).grown hg1 (by simp) (by simp)⟩
def DelCPost (W : World) (B : Nat) (A : Option Addr) (n c : Nat) (ys : List Value) (e : Ending) (w' : World) : Prop :=
  e = .returned (.slice A (n - 1) c) ∧ w'.ownsRow B 3 1 (.slice A (n - 1) c) (n - 1) ys ∧ W.grownBy w' (A.map (·.block))
theorem delC_any (B : Nat) (A : Option Addr) (n c : Nat) (xs : List Value) (j : Nat) (w : World) (hown : w.ownsRow B 3 1 (.slice A n c) n xs) (hj : j < n) (h1 : ∀ u ∈ xs, u.oneCell' = true) (hn : n ≤ 1000000) :
    Calls Tryd.prog 23 #[.slice A n c, .int .i64 (j : Nat), .int .i64 ((j : Nat) + 1)] w (DelCPost w B A n c (xs.take j ++ xs.drop (j + 1))) := by
  obtain ⟨g, rfl⟩ : ∃ g, A = some ⟨g, 0, none⟩ := by
    rcases hown.2 with ⟨h', h''⟩ | ⟨g', _, _, h', _⟩
    · omega
    · injection h' with h' _ _
      exact ⟨g', h'⟩
  have hnc : n ≤ c ∧ c ≤ maxLen := by
    rcases hown.2 with ⟨h', h''⟩ | ⟨g', cap, _, h', _, _, h2, h3, _⟩
    · omega
    · injection h' with _ _ h'
      subst h'
      exact ⟨h2, h3⟩
  have hcm : c ≤ 9223372036854775807 := by have := hnc.2; simpa [maxLen] using this
  have hnc := hnc.1
  have hxl : xs.length = n := by simpa using hown.1
  obtain ⟨news, hnews⟩ : ∃ news, news = xs.drop (j + 1) := ⟨_, rfl⟩
  have hnl : news.length = n - (j + 1) := by rw [hnews, List.length_drop, hxl]
  have hd : w.drew.ownsRow B 3 1 (.slice (some ⟨g, 0, none⟩) n c) n xs := hown.drew
  have ha := own_setCells (w := w) (xs := xs) news w.drew xs j hd
  obtain ⟨W1, hW1⟩ : ∃ W1, W1 = w.drew.setCells g j news := ⟨_, rfl⟩
  have hW1' : w.drew.setCells g (0 + j * 1) news = W1 := by rw [hW1, Nat.zero_add, Nat.mul_one]
  rw [← hW1] at ha
  have hb := own_setCells (w := w) (xs := xs) [.int .i64 0] W1 _ (n - 1) ha.1
  have hcl : ∀ ty cc, (Builtin.clear_ #[24] ty #[.slice (some ⟨g, n - 1, none⟩) 1 cc]).run Tryd.prog W1 = .ok (.tuple #[]) (W1.setCells g (n - 1) [.int .i64 0]) := fun ty cc =>
    run_clear_one W1 _ 3 ty (.int .i64 0) _ Tryd.underlying24 Tryd.zeroValue3 (by kernel_rfl) (by decide) g _ cc (fun i hi => own_isSome ha.1 _ (by simp at hi; omega)) (fun i hi => ha.1.frozenAt _)
  have hsrc : ∀ (ad : Addr), ad = (if c = j + 1 then (⟨g, 0, none⟩ : Addr) else ⟨g, j + 1, none⟩) → ∀ t u, news[t]? = some u → w.drew.cell? (ad.add t) = some u := by
    intro ad hade t u hu
    have htl := (List.getElem?_eq_some_iff.1 hu).1
    by_cases hc : c = j + 1
    · omega
    · rw [hade, if_neg hc]
      have hadd : (⟨g, j + 1, none⟩ : Addr).add t = ⟨g, j + 1 + t, none⟩ := by unfold Addr.add; split <;> simp_all
      rw [hadd]
      rw [hd.cellAt _ (by omega)]
      rw [← hu, hnews, List.getElem?_drop]
  have hspare : ∀ t, t < news.length → (w.drew.cell? ⟨g, 0 + j * 1 + t, none⟩).isSome = true ∧ w.drew.frozen? ⟨g, 0 + j * 1 + t, none⟩ = false := fun t ht => ⟨own_isSome hd _ (by omega), hd.frozenAt _⟩
  have h1n : ∀ u ∈ news, u.oneCell' = true := fun u hu => h1 u (by rw [hnews] at hu; exact List.mem_of_mem_drop hu)
  have hend : (lays (lays xs j news) (n - 1) [.int .i64 0]).take (n - 1) = xs.take j ++ xs.drop (j + 1) := by
    rw [lays_take _ _ _ _ (Nat.le_refl _), lays_eq _ _ _ (by omega), List.append_assoc, List.take_append, List.take_take]
    have e0 : (xs.take j).length = j := by rw [List.length_take]; omega
    rw [e0, List.take_append]
    have e1 : news.take (n - 1 - j) = news := List.take_of_length_le (by omega)
    have e2 : n - 1 - j - news.length = 0 := by omega
    have e3 : min (n - 1) j = j := by omega
    rw [e1, e2, e3, List.take_zero, List.append_nil, hnews]
  have Hfin := Lib.hid (And.intro ha (And.intro hb hend))
  have Hsrc := Lib.hid hsrc
  have Hsp := Lib.hid hspare
  have H1 := Lib.hid h1n
  have HW := Lib.hid hW1'
  have Hnl := Lib.hid hnl
  have hx1 : IntKind.i64.wrap ((j : Int) + 1) = (j : Int) + 1 := by rw [IntKind.wrap_i64]; omega
  have hjn : (j : Int) < n := by omega
  have hjn2 : ((j : Int) + 1) ≤ n := by omega
  have hje : ¬ ((j : Int) = (j : Int) + 1) := by omega
  clear ha hb hend hsrc hspare h1n hW1' hnl hW1 hnews hxl hd hown h1
  obtain ⟨i0, hi0, hz0, hz1, hz2⟩ := info_parts (P := Tryd.prog) (e := 3) (int_elem)
  go_enter Tryd.func23, Tryd.ntmps23
  go_wp2_with fail
  have hic : j ≤ c := by omega
  have hjc : j + 1 ≤ c := by omega
  have hjc3 : ((j : Int) + 1) ≤ c := by omega
  have hjc4 : (0 : Int) ≤ (j : Int) + 1 := by omega
  have htn : ((j : Int) + 1).toNat = j + 1 := by omega
  obtain ⟨ad, had, hade⟩ : ∃ ad, (if c = j + 1 then (some ⟨g, 0, none⟩ : Option Addr) else some ⟨g, j + 1, none⟩) = some ad ∧ ad = (if c = j + 1 then (⟨g, 0, none⟩ : Addr) else ⟨g, j + 1, none⟩) := ⟨_, by split <;> rfl, rfl⟩
  have Hs2 := Lib.hid (Hsrc.out ad hade)
  have hcj : j + (n - (j + 1)) = n - 1 := by omega
  clear hade
  go_region_law (refine step_append_room rfl (.tmp 22) (.tmp 25) 24 rfl 3 i0 1 Tryd.underlying24 hi0 hz1 g 0 j c (by simp [Act.eval, Act.put]) ad (n - (j + 1)) (c - (j + 1)) news (by simp [Act.eval, Act.put]) (by rw [Nat.mul_one]; exact Hnl.out) Hs2.out H1.out (by omega) Hsp.out ?_; rw [HW.out])
  all_goals
    have hcn : ¬ (c = n - 1) := by omega
    have hn1 : n - (n - 1) = 1 := by omega
    have hn2 : (((n - 1 : Nat)) : Int) ≤ n := by omega
    have hnc4 : n - 1 ≤ n := by omega
    try simp only [hcj]
    go_wp2_with fail
    go_ret
    obtain ⟨ha, hb, hend⟩ := Hfin.out
    have ht := own_take hb.1 (m := n - 1) (by omega)
    rw [Nat.mul_one, hend] at ht
    exact ⟨rfl, ht, hb.2.os.trans ha.2.os, hb.2.tape.trans ha.2.tape, hb.2.output.trans ha.2.output, Nat.le_trans ha.2.size hb.2.size, fun k hk hne => (hb.2.block k (Nat.lt_of_lt_of_le hk ha.2.size) hne).trans (ha.2.block k hk hne)⟩
end Go.Proofs.YtedcjakgdoiomaaDoor
