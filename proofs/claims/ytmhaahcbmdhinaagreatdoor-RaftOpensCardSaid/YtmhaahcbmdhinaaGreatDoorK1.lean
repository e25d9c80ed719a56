/- Plain law of members and majorities: no program in sight.
   slices.Clone at bytes.
   Rows of three integers and a byte slice (entries, items, acts): cells, and what comes in.
   Plain law of logs of entries: no program in sight.
   Walk of entry.right. (Printed by mkright.py.) -/
import Derived.Test.YtmhaahcbmdhinaaGreatDoorK0
import Derived.Test.YtmhaahcbmdhinaaGreatDoorRows
import Derived.RegionTactic
import Derived.Deep.LoopGhost
import Derived.Deep.DeepCutAuto
import Derived.BigQuiet
namespace Go.Proofs.YtmhaahcbmdhinaaGreatDoor
set_option linter.unusedVariables false
set_option linter.unusedSimpArgs false
def incr : Int → List Int → Bool
  | _, [] => true
  | a, x :: l => decide (a < x) && decide (x ≤ 64) && incr x l
/-- Whether members may be. -/
def cmay (c : List Int) : Bool := incr 0 c && decide (1 ≤ c.length) && decide (c.length ≤ 7)
/-- How many of c are among s. -/
def cnt (s c : List Int) : Nat := (c.filter fun x => decide (x ∈ s)).length
def quor (c s : List Int) : Bool := cmay c && decide (c.length < 2 * cnt s c)
/-- How many of a are not in b. -/
def apart (a b : List Int) : Nat := (a.filter fun x => !decide (x ∈ b)).length
def near (a b : List Int) : Bool := cmay a && cmay b && decide (apart a b + apart b a ≤ 1)
structure Mk where
  m : Int
  n : Int
/-- How far a member is. -/
def reach (l : List Mk) (who : Int) : Int := l.foldl (fun n x => if x.m = who then max n x.n else n) 0
def reaches (l : List Mk) (c : List Int) : List Int := c.map (reach l)
def srt (l : List Int) : List Int := l.mergeSort fun x y => decide (x ≤ y)
def agreed (c : List Int) (l : List Mk) : Int := if cmay c then (srt (reaches l c)).getD ((c.length - 1) / 2) 0 else 0
def someOf (n : Int) (l : List Mk) : List Int := (l.filter fun x => decide (n ≤ x.n)).map (·.m)
theorem incr_lt {a : Int} {c : List Int} (h : incr a c = true) : ∀ x ∈ c, a < x ∧ x ≤ 64 := by
  induction c generalizing a with
  | nil => simp
  | cons y c ih =>
    simp only [incr, Bool.and_eq_true, decide_eq_true_eq] at h
    intro x hx
    rcases List.mem_cons.1 hx with rfl | hx
    · exact h.1
    · have := ih h.2 x hx
      omega
theorem incr_pairwise {a : Int} {c : List Int} (h : incr a c = true) : c.Pairwise (· < ·) := by
  induction c generalizing a with
  | nil => simp
  | cons y c ih =>
    simp only [incr, Bool.and_eq_true, decide_eq_true_eq] at h
    rw [List.pairwise_cons]
    exact ⟨fun x hx => (incr_lt h.2 x hx).1, ih h.2⟩
theorem incr_of {a : Int} {c : List Int} (h1 : ∀ x ∈ c, a < x ∧ x ≤ 64) (h2 : c.Pairwise (· < ·)) : incr a c = true := by
  induction c generalizing a with
  | nil => rfl
  | cons y c ih =>
    rw [List.pairwise_cons] at h2
    simp only [incr, Bool.and_eq_true, decide_eq_true_eq]
    refine ⟨h1 y (by simp), ih (fun x hx => ⟨h2.1 x hx, (h1 x (by simp [hx])).2⟩) h2.2⟩
theorem cmay_iff {c : List Int} : cmay c = true ↔ (∀ x ∈ c, 0 < x ∧ x ≤ 64) ∧ c.Pairwise (· < ·) ∧ 1 ≤ c.length ∧ c.length ≤ 7 := by
  unfold cmay
  simp only [Bool.and_eq_true, decide_eq_true_eq]
  constructor
  · rintro ⟨⟨h1, h2⟩, h3⟩
    exact ⟨incr_lt h1, incr_pairwise h1, h2, h3⟩
  · rintro ⟨h1, h2, h3, h4⟩
    exact ⟨⟨incr_of h1 h2, h3⟩, h4⟩
theorem reach_ge_aux (l : List Mk) (who : Int) : ∀ a : Int, a ≤ l.foldl (fun n x => if x.m = who then max n x.n else n) a := by
  induction l with
  | nil => intro a; simp
  | cons x l ih =>
    intro a
    rw [List.foldl_cons]
    refine Int.le_trans ?_ (ih _)
    split <;> omega
theorem reach_iff_aux (l : List Mk) (who k : Int) : ∀ a : Int, k ≤ l.foldl (fun n x => if x.m = who then max n x.n else n) a ↔ k ≤ a ∨ ∃ x ∈ l, x.m = who ∧ k ≤ x.n := by
  induction l with
  | nil => intro a; simp
  | cons x l ih =>
    intro a
    rw [List.foldl_cons, ih]
    simp only [List.mem_cons, exists_eq_or_imp]
    split
    · rename_i h
      constructor
      · rintro (h' | h')
        · rcases Int.le_total a x.n with h2 | h2
          · right; left; exact ⟨h, by omega⟩
          · left; omega
        · right; right; exact h'
      · rintro (h' | h' | h')
        · left; omega
        · left; omega
        · right; exact h'
    · rename_i h
      constructor
      · rintro (h' | h')
        · exact .inl h'
        · exact .inr (.inr h')
      · rintro (h' | h' | h')
        · exact .inl h'
        · exact absurd h'.1 h
        · exact .inr h'
theorem reach_nn (l : List Mk) (who : Int) : 0 ≤ reach l who := reach_ge_aux l who 0
theorem reach_iff {l : List Mk} {who k : Int} (hk : 0 < k) : k ≤ reach l who ↔ ∃ x ∈ l, x.m = who ∧ k ≤ x.n := by
  unfold reach
  rw [reach_iff_aux]
  constructor
  · rintro (h | h)
    · omega
    · exact h
  · exact .inr
theorem mem_someOf {n : Int} {l : List Mk} {who : Int} (hn : 0 < n) : who ∈ someOf n l ↔ n ≤ reach l who := by
  rw [reach_iff hn]
  unfold someOf
  simp only [List.mem_map, List.mem_filter, decide_eq_true_eq]
  constructor
  · rintro ⟨x, ⟨h1, h2⟩, rfl⟩
    exact ⟨x, h1, rfl, h2⟩
  · rintro ⟨x, h1, rfl, h2⟩
    exact ⟨x, ⟨h1, h2⟩, rfl⟩
theorem cnt_some {n : Int} {l : List Mk} {c : List Int} (hn : 0 < n) : cnt (someOf n l) c = ((reaches l c).filter fun x => decide (n ≤ x)).length := by
  unfold cnt reaches
  rw [List.filter_map, List.length_map]
  congr 1
  refine List.filter_congr fun x _ => ?_
  simp only [Function.comp_apply, decide_eq_decide]
  exact mem_someOf hn
theorem srt_perm (l : List Int) : (srt l).Perm l := List.mergeSort_perm _ _
theorem srt_sorted (l : List Int) : (srt l).Pairwise (· ≤ ·) := by
  have := List.pairwise_mergeSort (le := fun x y : Int => decide (x ≤ y)) (fun a b c h1 h2 => by simp only [decide_eq_true_eq] at *; omega) (fun a b => by simp only [Bool.or_eq_true, decide_eq_true_eq]; omega) l
  exact this.imp fun h => by simpa using h
/-- In a list in order more than half are at least x, just if the middle one is. -/
theorem half (s : List Int) (hs : s.Pairwise (· ≤ ·)) (x : Int) (h0 : 1 ≤ s.length) : s.length < 2 * (s.filter fun y => decide (x ≤ y)).length ↔ x ≤ s.getD ((s.length - 1) / 2) 0 := by
  have hm : (s.length - 1) / 2 < s.length := by omega
  obtain ⟨m, hmm⟩ : ∃ m, m = (s.length - 1) / 2 := ⟨_, rfl⟩
  rw [← hmm] at hm ⊢
  have hget : s.getD m 0 = s[m] := by rw [List.getD_eq_getElem?_getD, List.getElem?_eq_getElem hm]; rfl
  rw [hget]
  have hle : ∀ i j (hi : i < s.length) (hj : j < s.length), i ≤ j → s[i] ≤ s[j] := by
    intro i j hi hj hij
    rcases Nat.lt_or_ge i j with h | h
    · exact List.pairwise_iff_getElem.1 hs i j hi hj h
    · obtain rfl : i = j := by omega
      exact Int.le_refl _
  have hsplit : s.filter (fun y => decide (x ≤ y)) = (s.take m).filter (fun y => decide (x ≤ y)) ++ (s.drop m).filter (fun y => decide (x ≤ y)) := by
    rw [← List.filter_append, List.take_append_drop]
  have hsplit1 : s.filter (fun y => decide (x ≤ y)) = (s.take (m + 1)).filter (fun y => decide (x ≤ y)) ++ (s.drop (m + 1)).filter (fun y => decide (x ≤ y)) := by
    rw [← List.filter_append, List.take_append_drop]
  constructor
  · intro h
    rcases Int.le_total x s[m] with h' | h'
    · exact h'
    · rcases Int.lt_or_eq_of_le h' with h'' | h''
      · exfalso
        have e0 : (s.take (m + 1)).filter (fun y => decide (x ≤ y)) = [] := by
          rw [List.filter_eq_nil_iff]
          intro y hy
          obtain ⟨i, hi, rfl⟩ := List.mem_iff_getElem.1 hy
          rw [List.length_take] at hi
          rw [List.getElem_take]
          have := hle i m (by omega) hm (by omega)
          simp only [decide_eq_true_eq]
          omega
        rw [hsplit1, e0, List.nil_append] at h
        have := List.length_filter_le (fun y => decide (x ≤ y)) (s.drop (m + 1))
        rw [List.length_drop] at this
        omega
      · omega
  · intro h
    have e1 : (s.drop m).filter (fun y => decide (x ≤ y)) = s.drop m := by
      rw [List.filter_eq_self]
      intro y hy
      obtain ⟨i, hi, rfl⟩ := List.mem_iff_getElem.1 hy
      rw [List.length_drop] at hi
      rw [List.getElem_drop]
      have := hle m (m + i) hm (by omega) (by omega)
      simp only [decide_eq_true_eq]
      omega
    rw [hsplit, e1, List.length_append, List.length_drop]
    omega
theorem quor_some {c : List Int} {l : List Mk} {n : Int} (hc : cmay c = true) (hn : 0 < n) : quor c (someOf n l) = decide (n ≤ agreed c l) := by
  unfold quor agreed
  rw [hc, if_pos rfl, Bool.true_and, cnt_some hn]
  have hlen : (srt (reaches l c)).length = c.length := by rw [(srt_perm _).length_eq]; simp [reaches]
  have h1 := half (srt (reaches l c)) (srt_sorted _) n (by rw [hlen]; exact (cmay_iff.1 hc).2.2.1)
  rw [hlen] at h1
  rw [((srt_perm (reaches l c)).filter _).length_eq] at h1
  simp only [decide_eq_decide]
  exact h1
theorem agreed_nn (c : List Int) (l : List Mk) : 0 ≤ agreed c l := by
  unfold agreed
  split
  · rename_i hc
    rw [List.getD_eq_getElem?_getD]
    rcases h : (srt (reaches l c))[(c.length - 1) / 2]? with _ | v
    · simp
    · have hm := (srt_perm (reaches l c)).mem_iff.1 (List.mem_of_getElem? h)
      unfold reaches at hm
      obtain ⟨x, _, rfl⟩ := List.mem_map.1 hm
      simpa using reach_nn l x
  · simp
/-- What is agreed, when more than nothing, is a mark. -/
theorem agreed_mem {c : List Int} {l : List Mk} (h : 0 < agreed c l) : ∃ x ∈ l, x.n = agreed c l := by
  have hc : cmay c = true := by
    rcases hc : cmay c with _ | _
    · unfold agreed at h
      rw [hc] at h
      simp at h
    · rfl
  have hlen : (srt (reaches l c)).length = c.length := by rw [(srt_perm _).length_eq]; simp [reaches]
  have hc1 := (cmay_iff.1 hc).2.2.1
  have hmem : agreed c l ∈ reaches l c := by
    unfold agreed
    rw [hc, if_pos rfl, List.getD_eq_getElem?_getD, List.getElem?_eq_getElem (by omega)]
    exact (srt_perm (reaches l c)).mem_iff.1 (List.getElem_mem _)
  obtain ⟨who, _, hw⟩ := List.mem_map.1 hmem
  obtain ⟨x, hx, hxm, hxn⟩ := (reach_iff h).1 (Int.le_of_eq hw.symm)
  refine ⟨x, hx, ?_⟩
  rcases Int.lt_or_eq_of_le hxn with hlt | he
  · exfalso
    have := (reach_iff (l := l) (who := who) (k := x.n) (by omega)).2 ⟨x, hx, hxm, Int.le_refl _⟩
    omega
  · exact he.symm
/-! ### two majorities -/
theorem nodup_le {a b : List Int} (ha : a.Pairwise (· < ·)) (h : ∀ z ∈ a, z ∈ b) : a.length ≤ b.length := by
  induction a generalizing b with
  | nil => simp
  | cons x a ih =>
    rw [List.pairwise_cons] at ha
    have hx : x ∈ b := h x (by simp)
    have h2 : ∀ z ∈ a, z ∈ b.erase x := by
      intro z hz
      have hne : z ≠ x := by have := ha.1 z hz; omega
      exact (List.mem_erase_of_ne hne).2 (h z (by simp [hz]))
    have h3 := ih ha.2 h2
    rw [List.length_erase_of_mem hx] at h3
    have := List.length_pos_of_mem hx
    simp only [List.length_cons]
    omega
theorem two_filters (l : List Int) (p q : Int → Bool) (h : ∀ z ∈ l, ¬ (p z = true ∧ q z = true)) : (l.filter p).length + (l.filter q).length ≤ l.length := by
  induction l with
  | nil => simp
  | cons x l ih =>
    have h1 := ih fun z hz => h z (by simp [hz])
    have h2 := h x (by simp)
    rw [List.filter_cons, List.filter_cons]
    rcases hp : p x with _ | _ <;> rcases hq : q x with _ | _ <;> simp [hp, hq] at h2 ⊢ <;> omega
theorem cnt_sub {s x y : List Int} (hx : x.Pairwise (· < ·)) (h : ∀ z ∈ x, z ∈ y) : cnt s x ≤ (y.filter fun z => decide (z ∈ s) && decide (z ∈ x)).length := by
  unfold cnt
  refine nodup_le (hx.filter _) fun z hz => ?_
  rw [List.mem_filter] at hz ⊢
  exact ⟨h z hz.1, by simp only [Bool.and_eq_true, decide_eq_true_eq]; exact ⟨by simpa using hz.2, hz.1⟩⟩
theorem meet {x y s o : List Int} (hx : x.Pairwise (· < ·)) (hy : y.Pairwise (· < ·)) (h1 : x.length < 2 * cnt s x) (h2 : y.length < 2 * cnt o y)
    (hxy : ((∀ z ∈ x, z ∈ y) ∧ y.length ≤ x.length + 1) ∨ ((∀ z ∈ y, z ∈ x) ∧ x.length ≤ y.length + 1)) : ∃ z ∈ s, z ∈ x ∧ z ∈ y ∧ z ∈ o := by
  apply Classical.byContradiction
  intro hno
  have hno' : ∀ z, z ∈ s → z ∈ x → z ∈ y → z ∈ o → False := fun z a b c d => hno ⟨z, a, b, c, d⟩
  rcases hxy with ⟨h3, h4⟩ | ⟨h3, h4⟩
  · have h5 := cnt_sub (s := s) hx h3
    have h6 := two_filters y (fun z => decide (z ∈ s) && decide (z ∈ x)) (fun z => decide (z ∈ o)) (by
      rintro z hz ⟨ha, hb⟩
      simp only [Bool.and_eq_true, decide_eq_true_eq] at ha hb
      exact hno' z ha.1 ha.2 hz hb)
    unfold cnt at h2
    omega
  · have h5 := cnt_sub (s := o) hy h3
    have h6 := two_filters x (fun z => decide (z ∈ s)) (fun z => decide (z ∈ o) && decide (z ∈ y)) (by
      rintro z hz ⟨ha, hb⟩
      simp only [Bool.and_eq_true, decide_eq_true_eq] at ha hb
      exact hno' z ha hz hb.2 hb.1)
    unfold cnt at h1
    omega
/-! ### one more, one less -/
def low (z : Int) (c : List Int) : Nat := (c.takeWhile fun x => decide (x < z)).length
def ins (z : Int) (c : List Int) : List Int := c.take (low z c) ++ z :: c.drop (low z c)
def del (z : Int) (c : List Int) : List Int := c.filter fun x => !decide (x = z)
theorem low_le (z : Int) (c : List Int) : low z c ≤ c.length := by
  unfold low
  exact (List.takeWhile_sublist _).length_le
theorem take_low (z : Int) (c : List Int) : c.take (low z c) = c.takeWhile fun x => decide (x < z) := by
  unfold low
  induction c with
  | nil => rfl
  | cons x c ih =>
    rw [List.takeWhile_cons]
    split
    · rw [List.length_cons, List.take_succ_cons, ih]
    · rfl
theorem drop_low (z : Int) (c : List Int) : c.drop (low z c) = c.dropWhile fun x => decide (x < z) := by
  unfold low
  induction c with
  | nil => rfl
  | cons x c ih =>
    rw [List.takeWhile_cons, List.dropWhile_cons]
    split
    · rw [List.length_cons, List.drop_succ_cons, ih]
    · rfl
theorem mem_ins {z u : Int} {c : List Int} : u ∈ ins z c ↔ u = z ∨ u ∈ c := by
  unfold ins
  rw [List.mem_append, List.mem_cons]
  conv => rhs; rw [← List.take_append_drop (low z c) c]
  rw [List.mem_append]
  constructor
  · rintro (h | h | h)
    · exact .inr (.inl h)
    · exact .inl h
    · exact .inr (.inr h)
  · rintro (h | h | h)
    · exact .inr (.inl h)
    · exact .inl h
    · exact .inr (.inr h)
theorem ins_length (z : Int) (c : List Int) : (ins z c).length = c.length + 1 := by
  unfold ins
  have := low_le z c
  rw [List.length_append, List.length_cons, List.length_take, List.length_drop]
  omega
theorem low_before {z : Int} {c : List Int} : ∀ x ∈ c.take (low z c), x < z := by
  rw [take_low]
  induction c with
  | nil => simp
  | cons y c ih =>
    intro x hx
    rw [List.takeWhile_cons] at hx
    split at hx
    · rename_i h
      rcases List.mem_cons.1 hx with rfl | hx
      · simpa using h
      · exact ih x hx
    · cases hx
theorem low_after {z : Int} {c : List Int} (hc : c.Pairwise (· < ·)) : ∀ x ∈ c.drop (low z c), z ≤ x := by
  rw [drop_low]
  induction c with
  | nil => simp
  | cons y c ih =>
    rw [List.pairwise_cons] at hc
    rw [List.dropWhile_cons]
    split
    · exact ih hc.2
    · rename_i h
      simp only [decide_eq_true_eq] at h
      intro x hx
      rcases List.mem_cons.1 hx with rfl | hx
      · omega
      · have := hc.1 x hx
        omega
theorem ins_pairwise {z : Int} {c : List Int} (hc : c.Pairwise (· < ·)) (hz : z ∉ c) : (ins z c).Pairwise (· < ·) := by
  unfold ins
  rw [List.pairwise_append, List.pairwise_cons]
  have h1 := low_before (z := z) (c := c)
  have h2 := low_after (z := z) hc
  have h3 : ∀ x ∈ c.drop (low z c), z < x := by
    intro x hx
    have := h2 x hx
    have : x ≠ z := fun e => hz (e ▸ List.mem_of_mem_drop hx)
    omega
  refine ⟨hc.sublist (List.take_sublist _ _), ⟨h3, hc.sublist (List.drop_sublist _ _)⟩, ?_⟩
  intro a ha b hb
  have := h1 a ha
  rcases List.mem_cons.1 hb with rfl | hb
  · exact this
  · have := h3 b hb
    omega
theorem ins_may {z : Int} {c : List Int} (hc : cmay c = true) (hz : z ∉ c) (h1 : 1 ≤ z) (h2 : z ≤ 64) (h3 : c.length < 7) : cmay (ins z c) = true := by
  rw [cmay_iff] at hc ⊢
  obtain ⟨a, b, d, e⟩ := hc
  refine ⟨fun x hx => ?_, ins_pairwise b hz, by rw [ins_length]; omega, by rw [ins_length]; omega⟩
  rcases mem_ins.1 hx with rfl | hx
  · omega
  · exact a x hx
theorem del_length {z : Int} {c : List Int} (hc : c.Pairwise (· < ·)) (hz : z ∈ c) : (del z c).length + 1 = c.length := by
  induction c with
  | nil => simp at hz
  | cons x c ih =>
    rw [List.pairwise_cons] at hc
    unfold del
    rw [List.filter_cons]
    by_cases hx : x = z
    · subst hx
      have e : c.filter (fun y => !decide (y = x)) = c := by
        rw [List.filter_eq_self]
        intro y hy
        have := hc.1 y hy
        simp only [Bool.not_eq_true', decide_eq_false_iff_not]
        omega
      simp [e]
    · have hz' : z ∈ c := by
        rcases List.mem_cons.1 hz with h | h
        · exact absurd h.symm hx
        · exact h
      have := ih hc.2 hz'
      unfold del at this
      simp [hx]
      omega
theorem mem_del {z u : Int} {c : List Int} : u ∈ del z c ↔ u ∈ c ∧ u ≠ z := by simp [del]
theorem del_may {z : Int} {c : List Int} (hc : cmay c = true) (hz : z ∈ c) (h : 2 ≤ c.length) : cmay (del z c) = true := by
  rw [cmay_iff] at hc ⊢
  obtain ⟨a, b, d, e⟩ := hc
  have := del_length b hz
  exact ⟨fun x hx => a x (mem_del.1 hx).1, b.filter _, by omega, by omega⟩
theorem apart_sub {a b : List Int} (h : ∀ z ∈ a, z ∈ b) : apart a b = 0 := by
  unfold apart
  rw [List.length_eq_zero_iff, List.filter_eq_nil_iff]
  intro x hx
  simp [h x hx]
theorem apart_one {a b : List Int} {z : Int} (ha : a.Pairwise (· < ·)) (h : ∀ u ∈ a, u = z ∨ u ∈ b) : apart a b ≤ 1 := by
  unfold apart
  have : (a.filter fun x => !decide (x ∈ b)).length ≤ [z].length := by
    refine nodup_le (ha.filter _) fun u hu => ?_
    rw [List.mem_filter] at hu
    rcases h u hu.1 with h' | h'
    · simp [h']
    · simp [h'] at hu
  simpa using this
theorem near_ins {z : Int} {c : List Int} (hc : cmay c = true) (hz : z ∉ c) (h1 : 1 ≤ z) (h2 : z ≤ 64) (h3 : c.length < 7) : near c (ins z c) = true ∧ near (ins z c) c = true := by
  have hm := ins_may hc hz h1 h2 h3
  have e1 := apart_sub (a := c) (b := ins z c) fun u hu => mem_ins.2 (.inr hu)
  have e2 := apart_one (a := ins z c) (b := c) (z := z) (cmay_iff.1 hm).2.1 fun u hu => mem_ins.1 hu
  unfold near
  rw [hc, hm, e1]
  simp only [Bool.true_and, decide_eq_true_eq]
  omega
theorem near_del {z : Int} {c : List Int} (hc : cmay c = true) (hz : z ∈ c) (h : 2 ≤ c.length) : near c (del z c) = true ∧ near (del z c) c = true := by
  have hm := del_may hc hz h
  have e1 := apart_sub (a := del z c) (b := c) fun u hu => (mem_del.1 hu).1
  have e2 := apart_one (a := c) (b := del z c) (z := z) (cmay_iff.1 hc).2.1 fun u hu => by
    by_cases he : u = z
    · exact .inl he
    · exact .inr (mem_del.2 ⟨hu, he⟩)
  unfold near
  rw [hc, hm, e1]
  simp only [Bool.true_and, decide_eq_true_eq]
  omega
theorem near_self {c : List Int} (hc : cmay c = true) : near c c = true := by
  unfold near
  rw [hc, apart_sub fun _ h => h]
  rfl
theorem eq_of_mem {a b : List Int} (ha : a.Pairwise (· < ·)) (hb : b.Pairwise (· < ·)) (h : ∀ z, z ∈ a ↔ z ∈ b) : a = b := by
  induction a generalizing b with
  | nil =>
    cases b with
    | nil => rfl
    | cons y b => exact absurd ((h y).2 (by simp)) (by simp)
  | cons x a ih =>
    cases b with
    | nil => exact absurd ((h x).1 (by simp)) (by simp)
    | cons y b =>
      rw [List.pairwise_cons] at ha hb
      have hxy : x = y := by
        have h1 := (h x).1 (by simp)
        have h2 := (h y).2 (by simp)
        rcases List.mem_cons.1 h1 with h1 | h1
        · exact h1
        · rcases List.mem_cons.1 h2 with h2 | h2
          · exact h2.symm
          · have := hb.1 x h1
            have := ha.1 y h2
            omega
      subst hxy
      congr 1
      refine ih ha.2 hb.2 fun z => ?_
      have hz := h z
      simp only [List.mem_cons] at hz
      constructor
      · intro hm
        have := ha.1 z hm
        rcases hz.1 (.inr hm) with h' | h'
        · omega
        · exact h'
      · intro hm
        have := hb.1 z hm
        rcases hz.2 (.inr hm) with h' | h'
        · omega
        · exact h'
theorem del_ins {z : Int} {c : List Int} (hc : c.Pairwise (· < ·)) (hz : z ∉ c) : del z (ins z c) = c := by
  refine eq_of_mem ((ins_pairwise hc hz).filter _) hc fun u => ?_
  change u ∈ del z (ins z c) ↔ _
  rw [mem_del, mem_ins]
  constructor
  · rintro ⟨h | h, h'⟩
    · exact absurd h h'
    · exact h
  · intro h
    exact ⟨.inr h, fun e => hz (e ▸ h)⟩
theorem ins_del {z : Int} {c : List Int} (hc : c.Pairwise (· < ·)) (hz : z ∈ c) : ins z (del z c) = c := by
  have hp : (del z c).Pairwise (· < ·) := hc.filter _
  refine eq_of_mem (ins_pairwise hp (fun h => (mem_del.1 h).2 rfl)) hc fun u => ?_
  rw [mem_ins, mem_del]
  constructor
  · rintro (h | h)
    · exact h ▸ hz
    · exact h.1
  · intro h
    by_cases he : u = z
    · exact .inl he
    · exact .inr ⟨h, he⟩
end Go.Proofs.YtmhaahcbmdhinaaGreatDoor
namespace Go.Proofs.YtmhaahcbmdhinaaGreatDoor
open Go.RowKit
set_option linter.unusedVariables false
set_option linter.unusedSimpArgs false
theorem u8_elem : Elem Tryz.prog 5 (.int .u8 0) 1 1 := by unfold Elem; kernel_rfl
theorem eqlB (w : World) (A : Option Addr) (n c : Nat) : (binOp .eql 26 (.slice A n c) (.slice none 0 0)).run Tryz.prog w = .ok (.bool A.isNone) w := Lib.run_eql_slice_nil w 26 5 A n c 0 0 Tryz.underlying26
attribute [local go_sem] eqlB
theorem clone_any (A : Option Addr) (n c : Nat) (xs : List Value) (w : World) {ok : Nat → Prop} (hr : Rd w ok 1 A n xs) (h1 : ∀ u ∈ xs, u.oneCell' = true) (hn : n ≤ 35184372088832) :
    Calls Tryz.prog 98 #[.slice A n c] w fun e w' => ∃ A' c', e = .returned (.slice A' n c') ∧ w'.ownsRow w.heap.size 5 1 (.slice A' n c') n xs ∧ Below w.heap.size w w' := by
  cases A with
  | none =>
    obtain ⟨rfl, rfl⟩ := hr.nil_of_none
    go_enter Tryz.func98, Tryz.ntmps98
    go_wp2_with fail
    go_ret
    exact ⟨_, _, rfl, ⟨by simp, .inl ⟨rfl, rfl⟩⟩, Below.refl _ _⟩
  | some ad =>
    go_enter Tryz.func98, Tryz.ntmps98
    go_wp2_with (at_builtin; refine wpList_append_any _ Tryz.underlying26 u8_elem rfl (by omega) rfl rfl rfl (own_new w w.heap.size 5 1 (Nat.le_refl _)) rfl (hr.alloc _) h1 (by omega) (by simp) (Nat.zero_add _) (List.nil_append _) ?_; intro A1 c1 w1 hown1 hg1 hat1)
    go_ret
    exact ⟨_, _, rfl, hown1, ((Below.refl _ _).alloc (Nat.le_refl _) _).grown hg1 (by simp) (by simp)⟩
end Go.Proofs.YtmhaahcbmdhinaaGreatDoor
namespace Go.Proofs.YtmhaahcbmdhinaaGreatDoor
open Go.ChangeShapes Go.WideShapes Go.ChangeAt Go.RowKit Go.Joins Go.Deep
set_option linter.unusedVariables false
set_option linter.unusedSimpArgs false
theorem rd_of_rows {α : Type} {enc : α → List Value} {k : Nat} (hk : ∀ x, (enc x).length = k) (hpos : 0 < k) {w : World} {A : Option Addr} {n : Nat} (Q : α → Prop)
    (key : ∀ i, i < n → ∃ x : α, Q x ∧ ∃ b o, A = some ⟨b, o, none⟩ ∧ ∀ j u, (enc x)[j]? = some u → w.cell? ⟨b, o + i * k + j, none⟩ = some u) :
    ∃ L : List α, Rd w T k A n (flat enc L) ∧ L.length = n ∧ ∀ x ∈ L, Q x := by
  have all : ∀ m, m ≤ n → ∃ L : List α, L.length = m ∧ (∀ x ∈ L, Q x) ∧ ∀ i x, L[i]? = some x → ∃ b o, A = some ⟨b, o, none⟩ ∧ ∀ j u, (enc x)[j]? = some u → w.cell? ⟨b, o + i * k + j, none⟩ = some u := by
    intro m
    induction m with
    | zero => exact fun _ => ⟨[], rfl, by simp, by simp⟩
    | succ m ih =>
      intro hm
      obtain ⟨L, hl, h1, h2⟩ := ih (by omega)
      obtain ⟨x, hx1, hx2⟩ := key m (by omega)
      refine ⟨L ++ [x], by simp [hl], ?_, ?_⟩
      · intro y hy
        rcases List.mem_append.1 hy with h' | h'
        · exact h1 y h'
        · obtain rfl := List.mem_singleton.1 h'
          exact hx1
      · intro i y hi
        by_cases hlt : i < L.length
        · rw [List.getElem?_append_left hlt] at hi
          exact h2 i y hi
        · rw [List.getElem?_append_right (by omega)] at hi
          have e0 : i - L.length = 0 := by
            rcases Nat.eq_zero_or_pos (i - L.length) with h' | h'
            · exact h'
            · rw [List.getElem?_eq_none (by simp; omega)] at hi
              cases hi
          rw [e0] at hi
          obtain rfl := Option.some.inj hi
          obtain rfl : i = m := by omega
          exact hx2
  obtain ⟨L, hL, hL1, hL2⟩ := all n (Nat.le_refl n)
  have hlen : (flat enc L).length = n * k := by rw [flat_length hk, hL]
  refine ⟨L, ⟨hlen, fun hn => ?_⟩, hL, hL1⟩
  obtain ⟨x0, _, b, o, hA, _⟩ := key 0 hn
  refine ⟨_, hA, trivial, fun j u hu => ?_⟩
  have hjl : j < n * k := by rw [← hlen]; exact (List.getElem?_eq_some_iff.1 hu).1
  have hq : j / k < n := (Nat.div_lt_iff_lt_mul hpos).2 hjl
  have hdm : j = (j / k) * k + j % k := by rw [Nat.mul_comm]; exact (Nat.div_add_mod j k).symm
  have hx := List.getElem?_eq_getElem (l := L) (i := j / k) (by omega)
  rw [hdm, flat_get hk hx (Nat.mod_lt _ hpos)] at hu
  obtain ⟨b', o', hA', hc⟩ := hL2 (j / k) _ hx
  rw [hA] at hA'
  injection hA' with hA'
  injection hA' with e1 e2 _
  subst e1 e2
  have := hc _ u hu
  rw [Nat.add_assoc, ← hdm] at this
  have hadd : (⟨b, o, none⟩ : Addr).add j = ⟨b, o + j, none⟩ := by
    unfold Addr.add
    split
    · rename_i h0; rw [h0, Nat.add_zero]
    · rfl
  rw [hadd]
  exact this
/-- A row: three numbers, and bytes that lie elsewhere. -/
structure Er where
  a : Int
  b : Int
  c : Int
  A : Option Addr
  n : Nat
  m : Nat
  d : List UInt8
def ecell (x : Er) : List Value := [.int .i64 x.a, .int .i64 x.b, .int .i64 x.c, .slice x.A x.n x.m]
theorem ecell_len (x : Er) : (ecell x).length = 4 := rfl
theorem er_cells {w : World} {ok : Nat → Prop} {n : Nat} {A : Option Addr} {l : List Er} (h : Rd w ok 4 A n (flat ecell l)) {j : Nat} (hj : j < n) : ∃ b o x, A = some ⟨b, o, none⟩ ∧ ok b ∧ b < w.heap.size ∧ l[j]? = some x ∧
    w.cell? ⟨b, o + j * 4, none⟩ = some (.int .i64 x.a) ∧ w.cell? ⟨b, o + j * 4 + 1, none⟩ = some (.int .i64 x.b) ∧ w.cell? ⟨b, o + j * 4 + 2, none⟩ = some (.int .i64 x.c) ∧ w.cell? ⟨b, o + j * 4 + 3, none⟩ = some (.slice x.A x.n x.m) := by
  obtain ⟨b, o, x, hA, hb, hlt, hx, hc⟩ := h.fat ecell_len (by omega) hj
  exact ⟨b, o, x, hA, hb, hlt, hx, hc 0 _ rfl, hc 1 _ rfl, hc 2 _ rfl, hc 3 _ rfl⟩
/-- The bytes of the rows can be read. -/
def Dat (w : World) (l : List Er) : Prop := ∀ x ∈ l, Rd w T 1 x.A x.n (bs x.d) ∧ x.n ≤ x.m ∧ x.m ≤ maxLen
theorem Dat.below {w w' : World} {l : List Er} (h : Dat w l) (hb : Below w.heap.size w w') : Dat w' l := fun x hx => ⟨(h x hx).1.below hb, (h x hx).2⟩
def W64 (x : Er) : Prop := I64 x.a ∧ I64 x.b ∧ I64 x.c
theorem in_ents {H : Type} {enc : TypeId × Value → H} {P : Program} {w : World} {base : Nat} {spare : Nat → Bool} {held : Bool} {fuel : Nat} {v : Value} {x : DataW H × List MemPlace} {t e e3 : TypeId} {f0 f1 f2 f3 : Field}
    (ht : P.underlying t = some (.slice e)) (he : P.underlying e = some (.struct #[f0, f1, f2, f3])) (hone : oneCellFields P #[f0, f1, f2, f3] = true) (hC : P.cellsOf e = 4)
    (h0 : P.underlying f0.type = some (.int .i64)) (h1 : P.underlying f1.type = some (.int .i64)) (h2 : P.underlying f2.type = some (.int .i64)) (h3 : P.underlying f3.type = some (.slice e3)) (h4 : P.underlying e3 = some (.int .u8)) (h5 : P.cellsOf e3 = 1)
    (h : DataW.trod enc P w base spare held fuel t [v] = some x) :
    ∃ A n c, ∃ L : List Er, v = .slice A n c ∧ Rd w T 4 A n (flat ecell L) ∧ L.length = n ∧ n ≤ c ∧ c ≤ maxLen ∧ (A = none → n = 0 ∧ c = 0) ∧ Dat w L ∧ ∀ y ∈ L, W64 y := by
  obtain ⟨A, n, c, hv, hnc, hcm, haz, hrow⟩ := in_rows ht he hone hC (by simp) h
  obtain ⟨L, k1, k2, k3⟩ := rd_of_rows (A := A) (n := n) (w := w) ecell_len (by omega) (fun y => (Rd w T 1 y.A y.n (bs y.d) ∧ y.n ≤ y.m ∧ y.m ≤ maxLen) ∧ W64 y) (by
    intro i hi
    obtain ⟨b, o, cs, m, hA, hl, hc, hf⟩ := hrow i hi
    obtain ⟨u0, y0, g0, q0⟩ := hf 0 _ rfl
    obtain ⟨u1, y1, g1, q1⟩ := hf 1 _ rfl
    obtain ⟨u2, y2, g2, q2⟩ := hf 2 _ rfl
    obtain ⟨u3, y3, g3, q3⟩ := hf 3 _ rfl
    obtain ⟨z0, rfl, w0⟩ := in_int h0 q0
    obtain ⟨z1, rfl, w1⟩ := in_int h1 q1
    obtain ⟨z2, rfl, w2⟩ := in_int h2 q2
    obtain ⟨B, m', d, l, rfl, hr, hmd, hdm, _⟩ := in_bytes h3 h4 h5 q3
    refine ⟨⟨z0, z1, z2, B, m', d, l⟩, ⟨⟨hr, hmd, hdm⟩, i64_of_wf w0, i64_of_wf w1, i64_of_wf w2⟩, b, o, hA, fun j u hj => ?_⟩
    match j, hj with
    | 0, hj => obtain rfl := Option.some.inj hj; exact hc 0 _ g0
    | 1, hj => obtain rfl := Option.some.inj hj; exact hc 1 _ g1
    | 2, hj => obtain rfl := Option.some.inj hj; exact hc 2 _ g2
    | 3, hj => obtain rfl := Option.some.inj hj; exact hc 3 _ g3)
  exact ⟨A, n, c, L, hv, k1, k2, hnc, hcm, haz, fun y hy => (k3 y hy).1, fun y hy => (k3 y hy).2⟩
end Go.Proofs.YtmhaahcbmdhinaaGreatDoor
namespace Go.Proofs.YtmhaahcbmdhinaaGreatDoor
set_option linter.unusedVariables false
set_option linter.unusedSimpArgs false
/-- An entry's numbers and bytes. -/
structure En where
  a : Int
  b : Int
  c : Int
  d : List UInt8
def en (x : Er) : En := ⟨x.a, x.b, x.c, x.d⟩
/-- Whether an entry can stand at i behind an index and a term. -/
def okE (ix tm : Int) (i : Nat) (e : En) : Bool := decide (1 ≤ e.a) && decide (e.a - i - 1 = ix) && decide (e.a ≤ 1099511627776) && decide (tm ≤ e.b) && decide (1 ≤ e.b) && decide (e.b ≤ 1099511627776) && decide (0 ≤ e.c) && decide (e.c ≤ 2) && decide (e.d.length ≤ 4096)
def rgt (ix : Int) : Int → Nat → List En → Bool
  | _, _, [] => true
  | tm, i, e :: l => okE ix tm i e && rgt ix e.b (i + 1) l
def lmay (b t : Int) (l : List En) : Bool := (decide (b = 0) && decide (t = 0) || decide (1 ≤ b) && decide (b ≤ 1099511627776) && decide (1 ≤ t) && decide (t ≤ 1099511627776)) && decide (l.length ≤ 4096) && rgt b t 0 l
/-- The last entry's index and term. -/
def lstA (b : Int) (l : List En) : Int := (l.getLast?.map (·.a)).getD b
def lstB (t : Int) (l : List En) : Int := (l.getLast?.map (·.b)).getD t
theorem okE_iff {ix tm : Int} {i : Nat} {e : En} : okE ix tm i e = true ↔ 1 ≤ e.a ∧ e.a - i - 1 = ix ∧ e.a ≤ 1099511627776 ∧ tm ≤ e.b ∧ 1 ≤ e.b ∧ e.b ≤ 1099511627776 ∧ 0 ≤ e.c ∧ e.c ≤ 2 ∧ e.d.length ≤ 4096 := by
  unfold okE
  simp only [Bool.and_eq_true, decide_eq_true_eq, and_assoc]
theorem rgt_step {ix tm : Int} {i : Nat} {l : List En} {e : En} (h : l[i]? = some e) : rgt ix tm i (l.drop i) = (okE ix tm i e && rgt ix e.b (i + 1) (l.drop (i + 1))) := by
  obtain ⟨hi, he⟩ := List.getElem?_eq_some_iff.1 h
  rw [List.drop_eq_getElem_cons hi, he]
  rfl
theorem lstA_len {b : Int} {l : List En} (h : 0 < l.length) : ∃ e, l[l.length - 1]? = some e ∧ lstA b l = e.a ∧ ∀ t, lstB t l = e.b := by
  have := List.getLast?_eq_getElem? (l := l)
  rw [List.getElem?_eq_getElem (by omega)] at this
  exact ⟨_, List.getElem?_eq_getElem (by omega), by unfold lstA; rw [this]; rfl, fun t => by unfold lstB; rw [this]; rfl⟩
end Go.Proofs.YtmhaahcbmdhinaaGreatDoor
namespace Go.Proofs.YtmhaahcbmdhinaaGreatDoor
open Go.RowKit
set_option maxRecDepth 100000
set_option linter.unusedVariables false
set_option linter.unusedSimpArgs false
def BoolPost (W : World) (b : Bool) (e : Ending) (w' : World) : Prop := e = .returned (.bool b) ∧ Below W.heap.size W w'
theorem ret_bool {a b : Bool} (h : a = b) : Ending.returned (.bool a) = .returned (.bool b) := by rw [h]
/-- The rows are what the machine can hold. -/
def Wel (L : List Er) : Prop := ∀ x ∈ L, W64 x ∧ x.n = x.d.length
theorem rgt_no {ix tj : Int} {j : Nat} {e : En} {r Q : Bool} (hs : Q = (okE ix tj j e && r)) (h : ¬ okE ix tj j e = true) : Q = false := by
  rw [hs]
  simp only [Bool.not_eq_true] at h
  rw [h, Bool.false_and]
theorem rgt_yes {ix tj : Int} {j : Nat} {e : En} {r Q : Bool} (hs : Q = (okE ix tj j e && r)) (h : okE ix tj j e = true) : r = Q := by
  rw [hs, h, Bool.true_and]
set_option maxHeartbeats 4000000 in
theorem right_any (ix tm : Int) (A : Option Addr) (n c : Nat) (L : List Er) (w : World) {ok : Nat → Prop} (hr : Rd w ok 4 A n (flat ecell L)) (hw : Wel L) (hn : n ≤ 1000000) :
    Calls Tryz.prog 120 #[.int .i64 ix, .int .i64 tm, .slice A n c] w (BoolPost w (rgt ix tm 0 (L.map en))) := by
  have hll := hr.flen ecell_len (by omega)
  obtain ⟨Q, hQ⟩ : ∃ Q, rgt ix tm 0 (L.map en) = Q := ⟨_, rfl⟩
  rw [hQ]
  have HQ := Lib.hid hQ
  have Hll := Lib.hid hll
  have Hw := Lib.hid hw
  clear hQ hll hw
  go_enter Tryz.func120, Tryz.ntmps120
  go_wp2_with fail
  go_loopg [1, 7, 8, 11] n (fun m s1 s7 s8 s11 wr => ∃ (j : Nat) (tj : Int), m = n - j ∧ j ≤ n ∧ s11 = .int .i64 j ∧ s1 = .int .i64 tj ∧ rgt ix tj j ((L.map en).drop j) = Q ∧ Below w.heap.size w wr)
  case atStart => exact ⟨0, tm, by omega, by omega, rfl, rfl, HQ.out, Below.refl _ _⟩
  case round =>
    obtain ⟨j, tj, hm, hj, rfl, rfl, hq, hb⟩ := hrel
    have Hm := Lib.hid hm
    have Hq := Lib.hid hq
    have Hb := Lib.hid hb
    clear hm hq hb
    by_cases hlt : j < n
    · obtain ⟨b, o, x, rfl, _, hbl, hx, c0, c1, c2, c3⟩ := er_cells (hr.below Hb.out) hlt
      have hjI : (j : Int) < n := by omega
      have hwx := Hw.out x (List.mem_of_getElem? hx)
      have hs := rgt_step (ix := ix) (tm := tj) (l := L.map en) (i := j) (e := en x) (by rw [List.getElem?_map, hx]; rfl)
      rw [Hq.out] at hs
      have Hs := Lib.hid hs
      have hxa := hwx.1.1
      have hxn := hwx.2
      have Hxn := Lib.hid hxn
      unfold I64 at hxa
      clear hx hs hwx hxn
      by_cases t1 : x.a < 1
      · have hf : Q = false := rgt_no Hs.out fun h => by
          have h' : 1 ≤ x.a ∧ x.a - j - 1 = ix ∧ x.a ≤ 1099511627776 ∧ tj ≤ x.b ∧ 1 ≤ x.b ∧ x.b ≤ 1099511627776 ∧ 0 ≤ x.c ∧ x.c ≤ 2 ∧ x.d.length ≤ 4096 := okE_iff.1 h
          have := Hxn.out
          try simp only [bne_iff_ne, ne_eq] at *
          omega
        have Hf := Lib.hid hf
        clear hf
        go_wp2_with fail
        all_goals
          go_ret
          exact ⟨ret_bool Hf.out.symm, Hb.out.alloc Hb.out.size _⟩
      · have t1d : decide (x.a < 1) = false := decide_eq_false t1
        have w1 : IntKind.i64.wrap (x.a - (j : Int)) = x.a - j := by rw [IntKind.wrap_i64]; omega
        have w2 : IntKind.i64.wrap (x.a - (j : Int) - 1) = x.a - j - 1 := by rw [IntKind.wrap_i64]; omega
        by_cases t2 : (x.a - (j : Int) - 1 != ix) = true
        · have hf : Q = false := rgt_no Hs.out fun h => by
            have h' : 1 ≤ x.a ∧ x.a - j - 1 = ix ∧ x.a ≤ 1099511627776 ∧ tj ≤ x.b ∧ 1 ≤ x.b ∧ x.b ≤ 1099511627776 ∧ 0 ≤ x.c ∧ x.c ≤ 2 ∧ x.d.length ≤ 4096 := okE_iff.1 h
            have := Hxn.out
            try simp only [bne_iff_ne, ne_eq] at *
            omega
          have Hf := Lib.hid hf
          clear hf
          go_wp2_with fail
          all_goals
            go_ret
            exact ⟨ret_bool Hf.out.symm, Hb.out.alloc Hb.out.size _⟩
        · have t2d : (x.a - (j : Int) - 1 != ix) = false := by simpa using t2
          have t2e : x.a - (j : Int) - 1 = ix := by simpa using t2d
          have T2 := Lib.hid t2e
          clear t2e
          by_cases t3 : 1099511627776 < x.a
          · have hf : Q = false := rgt_no Hs.out fun h => by
              have h' : 1 ≤ x.a ∧ x.a - j - 1 = ix ∧ x.a ≤ 1099511627776 ∧ tj ≤ x.b ∧ 1 ≤ x.b ∧ x.b ≤ 1099511627776 ∧ 0 ≤ x.c ∧ x.c ≤ 2 ∧ x.d.length ≤ 4096 := okE_iff.1 h
              have := Hxn.out
              try simp only [bne_iff_ne, ne_eq] at *
              omega
            have Hf := Lib.hid hf
            clear hf
            go_wp2_with fail
            all_goals
              go_ret
              exact ⟨ret_bool Hf.out.symm, Hb.out.alloc Hb.out.size _⟩
          · have t3d : decide (1099511627776 < x.a) = false := decide_eq_false t3
            by_cases t4 : x.b < tj
            · have hf : Q = false := rgt_no Hs.out fun h => by
                have h' : 1 ≤ x.a ∧ x.a - j - 1 = ix ∧ x.a ≤ 1099511627776 ∧ tj ≤ x.b ∧ 1 ≤ x.b ∧ x.b ≤ 1099511627776 ∧ 0 ≤ x.c ∧ x.c ≤ 2 ∧ x.d.length ≤ 4096 := okE_iff.1 h
                have := Hxn.out
                try simp only [bne_iff_ne, ne_eq] at *
                omega
              have Hf := Lib.hid hf
              clear hf
              go_wp2_with fail
              all_goals
                go_ret
                exact ⟨ret_bool Hf.out.symm, Hb.out.alloc Hb.out.size _⟩
            · have t4d : decide (x.b < tj) = false := decide_eq_false t4
              by_cases t4b : x.b < 1
              · have hf : Q = false := rgt_no Hs.out fun h => by
                  have h' : 1 ≤ x.a ∧ x.a - j - 1 = ix ∧ x.a ≤ 1099511627776 ∧ tj ≤ x.b ∧ 1 ≤ x.b ∧ x.b ≤ 1099511627776 ∧ 0 ≤ x.c ∧ x.c ≤ 2 ∧ x.d.length ≤ 4096 := okE_iff.1 h
                  have := Hxn.out
                  try simp only [bne_iff_ne, ne_eq] at *
                  omega
                have Hf := Lib.hid hf
                clear hf
                go_wp2_with fail
                all_goals
                  go_ret
                  exact ⟨ret_bool Hf.out.symm, Hb.out.alloc Hb.out.size _⟩
              · have t4bd : decide (x.b < 1) = false := decide_eq_false t4b
                by_cases t5 : 1099511627776 < x.b
                · have hf : Q = false := rgt_no Hs.out fun h => by
                    have h' : 1 ≤ x.a ∧ x.a - j - 1 = ix ∧ x.a ≤ 1099511627776 ∧ tj ≤ x.b ∧ 1 ≤ x.b ∧ x.b ≤ 1099511627776 ∧ 0 ≤ x.c ∧ x.c ≤ 2 ∧ x.d.length ≤ 4096 := okE_iff.1 h
                    have := Hxn.out
                    try simp only [bne_iff_ne, ne_eq] at *
                    omega
                  have Hf := Lib.hid hf
                  clear hf
                  go_wp2_with fail
                  all_goals
                    go_ret
                    exact ⟨ret_bool Hf.out.symm, Hb.out.alloc Hb.out.size _⟩
                · have t5d : decide (1099511627776 < x.b) = false := decide_eq_false t5
                  by_cases t6 : x.c < 0
                  · have hf : Q = false := rgt_no Hs.out fun h => by
                      have h' : 1 ≤ x.a ∧ x.a - j - 1 = ix ∧ x.a ≤ 1099511627776 ∧ tj ≤ x.b ∧ 1 ≤ x.b ∧ x.b ≤ 1099511627776 ∧ 0 ≤ x.c ∧ x.c ≤ 2 ∧ x.d.length ≤ 4096 := okE_iff.1 h
                      have := Hxn.out
                      try simp only [bne_iff_ne, ne_eq] at *
                      omega
                    have Hf := Lib.hid hf
                    clear hf
                    go_wp2_with fail
                    all_goals
                      go_ret
                      exact ⟨ret_bool Hf.out.symm, Hb.out.alloc Hb.out.size _⟩
                  · have t6d : decide (x.c < 0) = false := decide_eq_false t6
                    by_cases t7 : 2 < x.c
                    · have hf : Q = false := rgt_no Hs.out fun h => by
                        have h' : 1 ≤ x.a ∧ x.a - j - 1 = ix ∧ x.a ≤ 1099511627776 ∧ tj ≤ x.b ∧ 1 ≤ x.b ∧ x.b ≤ 1099511627776 ∧ 0 ≤ x.c ∧ x.c ≤ 2 ∧ x.d.length ≤ 4096 := okE_iff.1 h
                        have := Hxn.out
                        try simp only [bne_iff_ne, ne_eq] at *
                        omega
                      have Hf := Lib.hid hf
                      clear hf
                      go_wp2_with fail
                      all_goals
                        go_ret
                        exact ⟨ret_bool Hf.out.symm, Hb.out.alloc Hb.out.size _⟩
                    · have t7d : decide (2 < x.c) = false := decide_eq_false t7
                      by_cases t8 : 4096 < (x.n : Int)
                      · have hf : Q = false := rgt_no Hs.out fun h => by
                          have h' : 1 ≤ x.a ∧ x.a - j - 1 = ix ∧ x.a ≤ 1099511627776 ∧ tj ≤ x.b ∧ 1 ≤ x.b ∧ x.b ≤ 1099511627776 ∧ 0 ≤ x.c ∧ x.c ≤ 2 ∧ x.d.length ≤ 4096 := okE_iff.1 h
                          have := Hxn.out
                          try simp only [bne_iff_ne, ne_eq] at *
                          omega
                        have Hf := Lib.hid hf
                        clear hf
                        go_wp2_with fail
                        all_goals
                          go_ret
                          exact ⟨ret_bool Hf.out.symm, Hb.out.alloc Hb.out.size _⟩
                      · have t8d : decide (4096 < (x.n : Int)) = false := decide_eq_false t8
                        have hok : okE ix tj j (en x) = true := okE_iff.2 (by
                          show 1 ≤ x.a ∧ x.a - j - 1 = ix ∧ x.a ≤ 1099511627776 ∧ tj ≤ x.b ∧ 1 ≤ x.b ∧ x.b ≤ 1099511627776 ∧ 0 ≤ x.c ∧ x.c ≤ 2 ∧ x.d.length ≤ 4096
                          have := Hxn.out
                          have := T2.out
                          omega)
                        have hq2 := rgt_yes Hs.out hok
                        have Hq2 := Lib.hid hq2
                        clear hok hq2
                        go_wp2_with fail
                        all_goals
                          go_roundg (n - (j + 1))
                          case measure => have := Hm.out; omega
                          case rel => exact ⟨j + 1, x.b, rfl, by omega, by go_num, rfl, Hq2.out, Hb.out.alloc Hb.out.size _⟩
    · obtain rfl : j = n := by omega
      have hf : Q = true := by
        rw [← Hq.out, List.drop_of_length_le (by simp [Hll.out])]
        rfl
      have Hf := Lib.hid hf
      clear hf
      go_wp2_with fail
      go_ret
      exact ⟨ret_bool Hf.out.symm, Hb.out⟩
end Go.Proofs.YtmhaahcbmdhinaaGreatDoor
