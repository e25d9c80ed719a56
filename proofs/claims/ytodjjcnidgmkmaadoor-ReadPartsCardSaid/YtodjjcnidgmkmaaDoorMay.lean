/- Walks: whether an item, a queue may be (the program's own texts). -/
import Derived.Test.YtodjjcnidgmkmaaDoorRows
import Derived.Test.YtodjjcnidgmkmaaDoorRead
import Derived.Deep.LoopGhost
namespace Go.Proofs.YtodjjcnidgmkmaaDoor
open Go.RowKit
set_option linter.unusedVariables false
set_option linter.unusedSimpArgs false
/-- It answers a bool; nothing that was there has turned. -/
def BoolPost (W : World) (b : Bool) (e : Ending) (w' : World) : Prop := e = .returned (.bool b) ∧ Below W.heap.size W w'
theorem ret_bool {a b : Bool} (h : a = b) : Ending.returned (.bool a) = .returned (.bool b) := by rw [h]
theorem ret_int {a b : Int} (h : a = b) : Ending.returned (.int .i64 a) = .returned (.int .i64 b) := by rw [h]
theorem odd_any (z : Int) (w : World) : Calls Tryd.prog 31 #[.int .i64 z] w fun e w' => e = .returned (.bool (!okN z)) ∧ w = w' := by
  have e1 : (!okN z) = (decide (z < 0) || decide (1099511627776 < z)) := by simp [okN]
  have E1 := Lib.hid e1
  clear e1
  rcases Bool.eq_false_or_eq_true (decide (z < 0)) with hd | hd
  · have h : z < 0 := of_decide_eq_true hd
    have Hd := Lib.hid hd
    clear hd
    go_enter Tryd.func31, Tryd.ntmps31
    go_wp2_with fail
    go_ret
    exact ⟨ret_bool (by rw [E1.out, Hd.out]; rfl), rfl⟩
  · have h : ¬ z < 0 := of_decide_eq_false hd
    have Hd := Lib.hid hd
    clear hd
    go_enter Tryd.func31, Tryd.ntmps31
    go_wp2_with fail
    go_ret
    exact ⟨ret_bool (by rw [E1.out, Hd.out]; rfl), rfl⟩
def IdxPost (W : World) (b : Bool) (e : Ending) (w' : World) : Prop := ∃ k : Int, e = .returned (.int .i64 k) ∧ decide (0 ≤ k) = b ∧ W = w'
theorem idxI_any (A : Option Addr) (n c : Nat) (zs : List Int) (w : World) {ok : Nat → Prop} (hr : Rd w ok 1 A n (ii zs)) (hn : n ≤ 9223372036854775807) :
    Calls Tryd.prog 41 #[.slice A n c, .func (.func 31) #[] #[]] w (IdxPost w (zs.any fun z => !okN z)) := by
  have hl : zs.length = n := by have := hr.1; simpa [ii] using this
  have Hl := Lib.hid hl
  clear hl
  go_enter Tryd.func41, Tryd.ntmps41
  go_wp2_with fail
  go_loopg [5, 8] n (fun m s5 s8 wr => ∃ j : Nat, m = n - j ∧ j ≤ n ∧ s8 = .int .i64 j ∧ ((zs.take j).any fun z => !okN z) = false ∧ wr = w)
  case atStart => exact ⟨0, by omega, by omega, rfl, by simp, rfl⟩
  case round =>
    obtain ⟨j, hm, hj, rfl, hno, rfl⟩ := hrel
    have Hm := Lib.hid hm
    have Hno := Lib.hid hno
    clear hm hno
    by_cases hlt : j < n
    · obtain ⟨b, o, rfl, _, _, hc⟩ := hr.plain (by omega) (by omega)
      have h2 := Hl.out
      have hcj := hc j (.int .i64 (zs[j]'(by omega))) (by simp [ii, List.getElem?_eq_getElem (show j < zs.length by omega)])
      have hs : zs.take (j + 1) = zs.take j ++ [zs[j]'(by omega)] := List.take_succ_eq_append_getElem (by omega)
      have hmem : zs[j]'(by omega) ∈ zs := List.getElem_mem (by omega)
      generalize zs[j]'(by omega) = z at hcj hs hmem
      have Hs := Lib.hid hs
      have Hmem := Lib.hid hmem
      clear hs hc h2 hmem
      rcases Bool.eq_false_or_eq_true (!okN z) with hz | hz
      · go_wp2_with fail
        refine (odd_any z _).mono ?_
        rintro e w' ⟨rfl, rfl⟩
        rw [hz]
        go_wp2_with fail
        go_ret
        refine ⟨_, rfl, ?_, rfl⟩
        rw [decide_eq_true (by omega)]
        exact (List.any_eq_true.2 ⟨z, Hmem.out, hz⟩).symm
      · go_wp2_with fail
        refine (odd_any z _).mono ?_
        rintro e w' ⟨rfl, rfl⟩
        rw [hz]
        go_wp2_with fail
        go_roundg (n - (j + 1))
        case measure => have := Hm.out; omega
        case rel => exact ⟨j + 1, rfl, by omega, by go_num, by rw [Hs.out, List.any_append, Hno.out]; simpa using hz, rfl⟩
    · obtain rfl : j = n := by omega
      go_wp2_with fail
      go_ret
      refine ⟨_, rfl, ?_, rfl⟩
      have := Hno.out
      rw [List.take_of_length_le (Nat.le_of_eq Hl.out)] at this
      rw [this]
      rfl
theorem hasI_any (A : Option Addr) (n c : Nat) (zs : List Int) (w : World) {ok : Nat → Prop} (hr : Rd w ok 1 A n (ii zs)) (hn : n ≤ 9223372036854775807) :
    Calls Tryd.prog 32 #[.slice A n c, .func (.func 31) #[] #[]] w fun e w' => e = .returned (.bool (zs.any fun z => !okN z)) ∧ w = w' := by
  have h := idxI_any A n c zs w hr hn
  generalize (zs.any fun z => !okN z) = b at h
  go_enter Tryd.func32, Tryd.ntmps32
  go_wp2_with fail
  refine h.mono ?_
  rintro e w' ⟨k, rfl, hk, rfl⟩
  have Hk := Lib.hid hk
  clear hk
  go_wp2_with fail
  go_ret
  exact ⟨ret_bool Hk.out, rfl⟩
theorem itMay_any (x : It) (w : World) : Calls Tryd.prog 20 #[itA x] w (BoolPost w (itMay x)) := by
  obtain ⟨t, r, i, k⟩ := x
  unfold itA
  dsimp only
  have r1 : Rd ((w.alloc (.cells #[.int .i64 t, .int .i64 r, .int .i64 i, .int .i64 k] 36)).alloc (.cells #[.int .i64 t, .int .i64 r, .int .i64 i, .int .i64 k] 3)) T 1 (some ⟨w.heap.size + 1, 0, none⟩) 4 (ii [t, r, i, k]) := by
    have := Rd.lit (w := w.alloc (.cells #[.int .i64 t, .int .i64 r, .int .i64 i, .int .i64 k] 36)) (cs := #[.int .i64 t, .int .i64 r, .int .i64 i, .int .i64 k]) (t := 3) (fr := (0, 0)) (k := 4) rfl
    simpa [ii] using this.any
  have h := hasI_any _ 4 4 [t, r, i, k] _ r1 (by omega)
  have e1 : (!([t, r, i, k].any fun z => !okN z)) = itMay ⟨t, r, i, k⟩ := by simp [itMay, Bool.and_assoc]
  have E1 := Lib.hid e1
  generalize ([t, r, i, k].any fun z => !okN z) = b at h E1
  clear e1
  go_enter Tryd.func20, Tryd.ntmps20
  go_wp2_with fail
  refine h.mono ?_
  rintro e w' ⟨rfl, rfl⟩
  go_wp2_with fail
  go_ret
  exact ⟨ret_bool E1.out, ((Below.refl _ _).alloc (Nat.le_refl _) _).alloc (by simp) _⟩
theorem oddIt_any (x : It) (w : World) : Calls Tryd.prog 29 #[itA x] w (BoolPost w (!itMay x)) := by
  have h := fun W => itMay_any x W
  have Hh := Lib.hid h
  clear h
  generalize itMay x = m at Hh
  obtain ⟨t, r, i, k⟩ := x
  unfold itA at *
  dsimp only at *
  go_enter Tryd.func29, Tryd.ntmps29
  go_wp2_with fail
  refine (Hh.out _).mono ?_
  rintro e w' ⟨rfl, hb⟩
  go_wp2_with fail
  go_ret
  exact ⟨rfl, ((Below.refl _ _).alloc (Nat.le_refl _) _).trans (hb.mono (by simp))⟩
/-- One item's cells, as a load reads them. -/
theorem it_cells {w : World} {ok : Nat → Prop} {n : Nat} {A : Option Addr} {l : List It} (h : Rd w ok 4 A n (flat itc l)) {j : Nat} (hj : j < n) : ∃ b o x, A = some ⟨b, o, none⟩ ∧ ok b ∧ b < w.heap.size ∧ l[j]? = some x ∧
    w.cell? ⟨b, o + j * 4, none⟩ = some (.int .i64 x.t) ∧ w.cell? ⟨b, o + j * 4 + 1, none⟩ = some (.int .i64 x.r) ∧ w.cell? ⟨b, o + j * 4 + 2, none⟩ = some (.int .i64 x.i) ∧ w.cell? ⟨b, o + j * 4 + 3, none⟩ = some (.int .i64 x.k) := by
  obtain ⟨b, o, x, hA, hb, hlt, hx, hc⟩ := h.fat itc_len (by omega) hj
  exact ⟨b, o, x, hA, hb, hlt, hx, hc 0 _ rfl, hc 1 _ rfl, hc 2 _ rfl, hc 3 _ rfl⟩
def IdxBPost (W : World) (b : Bool) (e : Ending) (w' : World) : Prop := ∃ k : Int, e = .returned (.int .i64 k) ∧ decide (0 ≤ k) = b ∧ Below W.heap.size W w'
set_option maxHeartbeats 800000 in
theorem idxIt_any (A : Option Addr) (n c : Nat) (l : List It) (w : World) {ok : Nat → Prop} (hr : Rd w ok 4 A n (flat itc l)) (hn : n ≤ 1000000) :
    Calls Tryd.prog 40 #[.slice A n c, .func (.func 29) #[] #[]] w (IdxBPost w (l.any fun x => !itMay x)) := by
  have hl := hr.flen itc_len (by omega)
  have Hl := Lib.hid hl
  clear hl
  go_enter Tryd.func40, Tryd.ntmps40
  go_wp2_with fail
  go_loopg [5, 8] n (fun m s5 s8 wr => ∃ j : Nat, m = n - j ∧ j ≤ n ∧ s8 = .int .i64 j ∧ ((l.take j).any fun x => !itMay x) = false ∧ Below w.heap.size w wr)
  case atStart => exact ⟨0, by omega, by omega, rfl, by simp, Below.refl _ _⟩
  case round =>
    obtain ⟨j, hm, hj, rfl, hno, hb⟩ := hrel
    have Hm := Lib.hid hm
    have Hno := Lib.hid hno
    clear hm hno
    by_cases hlt : j < n
    · obtain ⟨b, o, x, rfl, _, hbl, hx, hc0, hc1, hc2, hc3⟩ := it_cells (hr.below hb) hlt
      have hs : l.take (j + 1) = l.take j ++ [x] := by rw [List.take_add_one, hx]; rfl
      have hmem : x ∈ l := List.mem_of_getElem? hx
      have Hs := Lib.hid hs
      have Hmem := Lib.hid hmem
      have hodd := fun W => oddIt_any x W
      have Hodd := Lib.hid hodd
      clear hs hmem hx hodd
      obtain ⟨m, hm⟩ : ∃ m, m = itMay x := ⟨_, rfl⟩
      rw [← hm] at Hodd
      have Hmm := Lib.hid hm
      clear hm
      unfold itA at Hodd
      have hjn : (j : Int) < n := by omega
      rcases Bool.eq_false_or_eq_true m with hz | hz
      · subst hz
        go_wp2_with fail
        refine (Hodd.out _).mono ?_
        rintro e w' ⟨rfl, hb2⟩
        go_wp2_with fail
        go_roundg (n - (j + 1))
        case measure => have := Hm.out; omega
        case rel => exact ⟨j + 1, rfl, by omega, by go_num, by rw [Hs.out, List.any_append, Hno.out]; simp [← Hmm.out], hb.trans (hb2.mono hb.size)⟩
      · subst hz
        go_wp2_with fail
        refine (Hodd.out _).mono ?_
        rintro e w' ⟨rfl, hb2⟩
        go_wp2_with fail
        go_ret
        refine ⟨_, rfl, ?_, hb.trans (hb2.mono hb.size)⟩
        rw [decide_eq_true (by omega)]
        exact (List.any_eq_true.2 ⟨x, Hmem.out, by rw [← Hmm.out]; rfl⟩).symm
    · obtain rfl : j = n := by omega
      go_wp2_with fail
      go_ret
      refine ⟨_, rfl, ?_, hb⟩
      have := Hno.out
      rw [List.take_of_length_le (Nat.le_of_eq Hl.out)] at this
      rw [this]
      rfl
theorem hasIt_any (A : Option Addr) (n c : Nat) (l : List It) (w : World) {ok : Nat → Prop} (hr : Rd w ok 4 A n (flat itc l)) (hn : n ≤ 1000000) :
    Calls Tryd.prog 30 #[.slice A n c, .func (.func 29) #[] #[]] w (BoolPost w (l.any fun x => !itMay x)) := by
  have h := idxIt_any A n c l w hr hn
  generalize (l.any fun x => !itMay x) = b at h
  go_enter Tryd.func30, Tryd.ntmps30
  go_wp2_with fail
  refine h.mono ?_
  rintro e w' ⟨k, rfl, hk, hb⟩
  have Hk := Lib.hid hk
  clear hk
  go_wp2_with fail
  go_ret
  exact ⟨ret_bool Hk.out, hb⟩
theorem not_any_not (l : List It) : (!(l.any fun x => !itMay x)) = l.all itMay := by
  induction l with
  | nil => rfl
  | cons x l ih => rw [List.any_cons, List.all_cons, Bool.not_or, ih, Bool.not_not]
/-- A queue by value: its limit, its slice. -/
def quA (lim : Int) (A : Option Addr) (n c : Nat) : Value := .agg #[.int .i64 lim, .slice A n c]
set_option maxHeartbeats 800000 in
theorem quMay_any (lim : Int) (A : Option Addr) (n c : Nat) (l : List It) (w : World) {ok : Nat → Prop} (hr : Rd w ok 4 A n (flat itc l)) (hn : n ≤ 1000000) :
    Calls Tryd.prog 19 #[quA lim A n c] w (BoolPost w (quMay lim l)) := by
  have hl := hr.flen itc_len (by omega)
  have hq : quMay lim l = (decide (1 ≤ lim) && decide (lim ≤ 4096) && decide ((n : Int) ≤ lim) && l.all itMay) := by rw [quMay, hl]
  have h := hasIt_any A n c l _ (hr.alloc (.cells #[.int .i64 lim, .slice A n c] 30)) hn
  have e1 := not_any_not l
  have Hq := Lib.hid hq
  have He := Lib.hid e1
  have Hh := Lib.hid h
  generalize (l.any fun x => !itMay x) = b at Hh He
  clear h e1 hl hq
  unfold quA
  by_cases h1 : 1 ≤ lim
  · by_cases h2 : lim ≤ 4096
    · by_cases h3 : (n : Int) ≤ lim
      · go_enter Tryd.func19, Tryd.ntmps19
        go_wp2_with fail
        refine Hh.out.mono ?_
        rintro e w' ⟨rfl, hb⟩
        go_wp2_with fail
        go_ret
        exact ⟨ret_bool (by rw [Hq.out, ← He.out, decide_eq_true (p := 1 ≤ lim) (by omega), decide_eq_true (p := lim ≤ 4096) (by omega), decide_eq_true (p := (n : Int) ≤ lim) (by omega)]; rfl), ((Below.refl _ _).alloc (Nat.le_refl _) _).trans (hb.mono (by simp))⟩
      · go_enter Tryd.func19, Tryd.ntmps19
        go_wp2_with fail
        go_ret
        exact ⟨ret_bool (by rw [Hq.out]; rw [decide_eq_false (p := (n : Int) ≤ lim) (by omega)]; simp), (Below.refl _ _).alloc (Nat.le_refl _) _⟩
    · go_enter Tryd.func19, Tryd.ntmps19
      go_wp2_with fail
      go_ret
      exact ⟨ret_bool (by rw [Hq.out]; rw [decide_eq_false (p := lim ≤ 4096) (by omega)]; simp), (Below.refl _ _).alloc (Nat.le_refl _) _⟩
  · go_enter Tryd.func19, Tryd.ntmps19
    go_wp2_with fail
    go_ret
    exact ⟨ret_bool (by rw [Hq.out]; rw [decide_eq_false (p := 1 ≤ lim) (by omega)]; simp), (Below.refl _ _).alloc (Nat.le_refl _) _⟩
end Go.Proofs.YtodjjcnidgmkmaaDoor
