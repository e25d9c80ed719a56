/- slices.Delete at one item. -/
import Derived.Test.YtckpinnnmafdgaaDoorCloneI
import Derived.Test.YtckpinnnmafdgaaDoorRow
import Derived.Deep.RegionLaw
import Derived.Lib.SliceRun
import Derived.Laws.OwnMore
namespace Go.Proofs.YtckpinnnmafdgaaDoor
open Go.RowKit
set_option linter.unusedVariables false
set_option linter.unusedSimpArgs false
set_option maxRecDepth 100000
def DelPost (W : World) (B : Nat) (A : Option Addr) (n c : Nat) (ys : List Value) (e : Ending) (w' : World) : Prop :=
  e = .returned (.slice A (n - 1) c) ∧ w'.ownsRow B 32 4 (.slice A (n - 1) c) (n - 1) ys ∧ W.grownBy w' (A.map (·.block))
theorem delI_any (B : Nat) (A : Option Addr) (n c : Nat) (xs : List Value) (j : Nat) (w : World) (hown : w.ownsRow B 32 4 (.slice A n c) n xs) (hj : j < n) (h1 : ∀ u ∈ xs, u.oneCell' = true) (hn : n ≤ 1000000) :
    Calls Tryd.prog 25 #[.slice A n c, .int .i64 (j : Nat), .int .i64 ((j : Nat) + 1)] w (DelPost w B A n c (xs.take (j * 4) ++ xs.drop ((j + 1) * 4))) := by
  obtain ⟨g, rfl⟩ : ∃ g, A = some ⟨g, 0, none⟩ := by
    rcases hown.2 with ⟨h', h''⟩ | ⟨g', _, _, h', _⟩
    · omega
    · injection h' with h' _ _
      exact ⟨g', h'⟩
  have hnc : n ≤ c ∧ c ≤ maxLen := by
    rcases hown.2 with ⟨h', h''⟩ | ⟨g', cap, _, h', _, _, h2, h3, _⟩
    · omega
    · injection h' with _ _ h'
      subst h'
      exact ⟨h2, h3⟩
  have hcm : c ≤ 9223372036854775807 := by have := hnc.2; simpa [maxLen] using this
  have hnc := hnc.1
  have hxl : xs.length = n * 4 := hown.1
  obtain ⟨news, hnews⟩ : ∃ news, news = xs.drop ((j + 1) * 4) := ⟨_, rfl⟩
  have hnl : news.length = (n - (j + 1)) * 4 := by rw [hnews, List.length_drop, hxl]; omega
  have hd : w.drew.ownsRow B 32 4 (.slice (some ⟨g, 0, none⟩) n c) n xs := hown.drew
  have ha := own_setCells (w := w) (xs := xs) news w.drew xs (j * 4) hd
  obtain ⟨W1, hW1⟩ : ∃ W1, W1 = w.drew.setCells g (j * 4) news := ⟨_, rfl⟩
  have hW1' : w.drew.setCells g (0 + j * 4) news = W1 := by rw [hW1, Nat.zero_add]
  rw [← hW1] at ha
  have hb := own_setCells (w := w) (xs := xs) [.int .i64 0, .int .i64 0, .int .i64 0, .slice none 0 0] W1 _ ((n - 1) * 4) ha.1
  have hcl : ∀ ty cc, (Builtin.clear_ #[40] ty #[.slice (some ⟨g, (n - 1) * 4, none⟩) 1 cc]).run Tryd.prog W1 = .ok (.tuple #[]) (W1.setCells g ((n - 1) * 4) [.int .i64 0, .int .i64 0, .int .i64 0, .slice none 0 0]) := fun ty cc =>
    run_clear_one W1 _ 32 ty (.agg #[.int .i64 0, .int .i64 0, .int .i64 0, .slice none 0 0]) _ Tryd.underlying40 Tryd.zeroValue32 (by kernel_rfl) (by decide) g _ cc (fun i hi => own_isSome ha.1 _ (by simp at hi; omega)) (fun i hi => ha.1.frozenAt _)
  have hsrc : ∀ (ad : Addr), ad = (if c = j + 1 then (⟨g, 0, none⟩ : Addr) else ⟨g, (j + 1) * 4, none⟩) → ∀ t u, news[t]? = some u → w.drew.cell? (ad.add t) = some u := by
    intro ad hade t u hu
    have htl := (List.getElem?_eq_some_iff.1 hu).1
    by_cases hc : c = j + 1
    · omega
    · rw [hade, if_neg hc]
      have hadd : (⟨g, (j + 1) * 4, none⟩ : Addr).add t = ⟨g, (j + 1) * 4 + t, none⟩ := by unfold Addr.add; split <;> simp_all
      rw [hadd]
      rw [hd.cellAt _ (by omega)]
      rw [← hu, hnews, List.getElem?_drop]
  have hspare : ∀ t, t < news.length → (w.drew.cell? ⟨g, 0 + j * 4 + t, none⟩).isSome = true ∧ w.drew.frozen? ⟨g, 0 + j * 4 + t, none⟩ = false := fun t ht => ⟨own_isSome hd _ (by omega), hd.frozenAt _⟩
  have h1n : ∀ u ∈ news, u.oneCell' = true := fun u hu => h1 u (by rw [hnews] at hu; exact List.mem_of_mem_drop hu)
  have hend : (lays (lays xs (j * 4) news) ((n - 1) * 4) [.int .i64 0, .int .i64 0, .int .i64 0, .slice none 0 0]).take ((n - 1) * 4) = xs.take (j * 4) ++ xs.drop ((j + 1) * 4) := by
    rw [lays_take _ _ _ _ (Nat.le_refl _), lays_eq _ _ _ (by omega), List.append_assoc, List.take_append, List.take_take]
    have e0 : (xs.take (j * 4)).length = j * 4 := by rw [List.length_take]; omega
    rw [e0, List.take_append]
    have e1 : news.take ((n - 1) * 4 - j * 4) = news := List.take_of_length_le (by omega)
    have e2 : (n - 1) * 4 - j * 4 - news.length = 0 := by omega
    have e3 : min ((n - 1) * 4) (j * 4) = j * 4 := by omega
    rw [e1, e2, e3, List.take_zero, List.append_nil, hnews]
  have Hfin := Lib.hid (And.intro ha (And.intro hb hend))
  have Hsrc := Lib.hid hsrc
  have Hsp := Lib.hid hspare
  have H1 := Lib.hid h1n
  have HW := Lib.hid hW1'
  have Hnl := Lib.hid hnl
  have hx1 : IntKind.i64.wrap ((j : Int) + 1) = (j : Int) + 1 := by rw [IntKind.wrap_i64]; omega
  have hjn : (j : Int) < n := by omega
  have hjn2 : ((j : Int) + 1) ≤ n := by omega
  have hje : ¬ ((j : Int) = (j : Int) + 1) := by omega
  clear ha hb hend hsrc hspare h1n hW1' hnl hW1 hnews hxl hd hown h1
  obtain ⟨i0, hi0, hz0, hz1, hz2⟩ := info_parts (P := Tryd.prog) (e := 32) (itm_elem)
  go_enter Tryd.func25, Tryd.ntmps25
  go_wp2_with fail
  have hic : j ≤ c := by omega
  have hjc : j + 1 ≤ c := by omega
  have hjc3 : ((j : Int) + 1) ≤ c := by omega
  have hjc4 : (0 : Int) ≤ (j : Int) + 1 := by omega
  have htn : ((j : Int) + 1).toNat = j + 1 := by omega
  obtain ⟨ad, had, hade⟩ : ∃ ad, (if c = j + 1 then (some ⟨g, 0, none⟩ : Option Addr) else some ⟨g, (j + 1) * 4, none⟩) = some ad ∧ ad = (if c = j + 1 then (⟨g, 0, none⟩ : Addr) else ⟨g, (j + 1) * 4, none⟩) := ⟨_, by split <;> rfl, rfl⟩
  have Hs2 := Lib.hid (Hsrc.out ad hade)
  have hcj : j + (n - (j + 1)) = n - 1 := by omega
  clear hade
  go_region_law (refine step_append_room rfl (.tmp 22) (.tmp 25) 40 rfl 32 i0 4 Tryd.underlying40 hi0 hz1 g 0 j c (by simp [Act.eval, Act.put]) ad (n - (j + 1)) (c - (j + 1)) news (by simp [Act.eval, Act.put]) Hnl.out Hs2.out H1.out (by omega) Hsp.out ?_; rw [HW.out])
  all_goals
    have hcn : ¬ (c = n - 1) := by omega
    have hn1 : n - (n - 1) = 1 := by omega
    have hn2 : (((n - 1 : Nat)) : Int) ≤ n := by omega
    have hnc4 : n - 1 ≤ n := by omega
    try simp only [hcj]
    go_wp2_with fail
    go_ret
    obtain ⟨ha, hb, hend⟩ := Hfin.out
    have ht := own_take hb.1 (m := n - 1) (by omega)
    rw [hend] at ht
    exact ⟨rfl, ht, hb.2.os.trans ha.2.os, hb.2.tape.trans ha.2.tape, hb.2.output.trans ha.2.output, Nat.le_trans ha.2.size hb.2.size, fun k hk hne => (hb.2.block k (Nat.lt_of_lt_of_le hk ha.2.size) hne).trans (ha.2.block k hk hne)⟩
end Go.Proofs.YtckpinnnmafdgaaDoor
