/- Walks: a row of the call's own; slices.Index, Contains; the document's In; whether members may be. (Printed by mkconf.py.) -/
import Derived.Test.YtedcjakgdoiomaaDoorRows
import Derived.Test.YtedcjakgdoiomaaDoorPlain
import Derived.RegionTactic
import Derived.Deep.LoopGhost
import Derived.Deep.DeepCutAuto
import Derived.BigQuiet
namespace Go.Proofs.YtedcjakgdoiomaaDoor
open Go.RowKit
set_option maxRecDepth 100000
set_option linter.unusedVariables false
set_option linter.unusedSimpArgs false
/-- It answers a bool; nothing that was there has turned. -/
def BoolPost (W : World) (b : Bool) (e : Ending) (w' : World) : Prop := e = .returned (.bool b) ∧ Below W.heap.size W w'
def IntPost (W : World) (z : Int) (e : Ending) (w' : World) : Prop := e = .returned (.int .i64 z) ∧ Below W.heap.size W w'
theorem ret_bool {a b : Bool} (h : a = b) : Ending.returned (.bool a) = .returned (.bool b) := by rw [h]
theorem ret_int {a b : Int} (h : a = b) : Ending.returned (.int .i64 a) = .returned (.int .i64 b) := by rw [h]
theorem int_elem : Elem Tryd.prog 3 (.int .i64 0) 1 8 := by unfold Elem; kernel_rfl
theorem ii_one (l : List Int) : ∀ u ∈ ii l, u.oneCell' = true := by
  intro u hu
  obtain ⟨z, _, rfl⟩ := List.mem_map.1 hu
  rfl
theorem ii_cell {w : World} {ok : Nat → Prop} {n : Nat} {A : Option Addr} {l : List Int} (h : Rd w ok 1 A n (ii l)) {j : Nat} (hj : j < n) : ∃ b o z, A = some ⟨b, o, none⟩ ∧ ok b ∧ b < w.heap.size ∧ l[j]? = some z ∧ w.cell? ⟨b, o + j, none⟩ = some (.int .i64 z) := by
  obtain ⟨b, o, e, hb, hlt, hc⟩ := h.plain (by omega) (by omega)
  have hl : l.length = n := by have := h.1; simpa [ii] using this
  exact ⟨b, o, l[j]'(by omega), e, hb, hlt, List.getElem?_eq_getElem (by omega), hc j _ (by simp [ii, List.getElem?_eq_getElem (show j < l.length by omega)])⟩
theorem ii_len {w : World} {ok : Nat → Prop} {n : Nat} {A : Option Addr} {l : List Int} (h : Rd w ok 1 A n (ii l)) : l.length = n := by have := h.1; simpa [ii] using this
def OwnPost (W : World) (n : Nat) (l : List Int) (e : Ending) (w' : World) : Prop := ∃ A c, e = .returned (.slice A n c) ∧ w'.ownsRow W.heap.size 3 1 (.slice A n c) n (ii l) ∧ Below W.heap.size W w'
theorem own_any (A : Option Addr) (n c : Nat) (l : List Int) (w : World) {ok : Nat → Prop} (hr : Rd w ok 1 A n (ii l)) (hn : n ≤ 1000000) :
    Calls Tryd.prog 5 #[.slice A n c] w (OwnPost w n l) := by
  go_enter Tryd.func5, Tryd.ntmps5
  go_wp2_with (at_builtin; refine wpList_append_any _ Tryd.underlying22 int_elem rfl (by omega) rfl rfl rfl (World.ownsRow_nil w w.heap.size 3 1) rfl hr (ii_one l) (by omega) (by simp) (Nat.zero_add _) (List.nil_append _) ?_; intro A1 c1 w1 hown1 hg1 hat1)
  go_ret
  exact ⟨_, _, rfl, hown1, (Below.refl _ _).grown hg1 (Nat.le_refl _) (by simp)⟩
def IdxPost (W : World) (z : Int) (l : List Int) (e : Ending) (w' : World) : Prop := ∃ k : Int, e = .returned (.int .i64 k) ∧ ((∃ i : Nat, k = i ∧ l[i]? = some z ∧ z ∉ l.take i) ∨ (k = -1 ∧ z ∉ l)) ∧ W = w'
def SameBool (W : World) (b : Bool) (e : Ending) (w' : World) : Prop := e = .returned (.bool b) ∧ W = w'

theorem idx_any (A : Option Addr) (n c : Nat) (l : List Int) (z : Int) (w : World) {ok : Nat → Prop} (hr : Rd w ok 1 A n (ii l)) (hn : n ≤ 1000000) :
    Calls Tryd.prog 36 #[.slice A n c, .int .i64 z] w (IdxPost w z l) := by
  have Hl := Lib.hid (ii_len hr)
  go_enter Tryd.func36, Tryd.ntmps36
  go_wp2_with fail
  go_loopg [5, 8] n (fun m s5 s8 wr => ∃ j : Nat, m = n - j ∧ j ≤ n ∧ s8 = .int .i64 j ∧ z ∉ l.take j ∧ wr = w)
  case atStart => exact ⟨0, by omega, by omega, rfl, by simp, rfl⟩
  case round =>
    obtain ⟨j, hm, hj, rfl, hno, rfl⟩ := hrel
    have Hm := Lib.hid hm
    have Hno := Lib.hid hno
    clear hm hno
    by_cases hlt : j < n
    · obtain ⟨b, o, x, rfl, _, _, hx, hc⟩ := ii_cell hr hlt
      have Hx := Lib.hid hx
      clear hx
      have hltI : (j : Int) < n := by omega
      by_cases hzx : z = x
      · subst hzx
        go_wp2_with fail
        go_ret
        exact ⟨_, rfl, .inl ⟨j, rfl, Hx.out, Hno.out⟩, rfl⟩
      · have hzf : (z == x) = false := by simpa using hzx
        go_wp2_with fail
        go_roundg (n - (j + 1))
        case measure => have := Hm.out; omega
        case rel => exact ⟨j + 1, rfl, by omega, by go_num, by rw [List.take_add_one, Hx.out]; simp only [Option.toList_some, List.mem_append, List.mem_singleton]; exact fun h => h.elim Hno.out hzx, rfl⟩
    · obtain rfl : j = n := by omega
      go_wp2_with fail
      go_ret
      exact ⟨_, rfl, .inr ⟨rfl, by have := Hno.out; rwa [List.take_of_length_le (Nat.le_of_eq Hl.out)] at this⟩, rfl⟩
theorem has_any (A : Option Addr) (n c : Nat) (l : List Int) (z : Int) (w : World) {ok : Nat → Prop} (hr : Rd w ok 1 A n (ii l)) (hn : n ≤ 1000000) :
    Calls Tryd.prog 26 #[.slice A n c, .int .i64 z] w (SameBool w (decide (z ∈ l))) := by
  have hidx := idx_any A n c l z w hr hn
  have H := Lib.hid hidx
  clear hidx hr
  go_enter Tryd.func26, Tryd.ntmps26
  go_wp2_with fail
  refine H.out.mono ?_
  rintro e w' ⟨k, rfl, hk, rfl⟩
  rcases hk with ⟨i, rfl, h1, _⟩ | ⟨rfl, h1⟩
  · have hd : decide (z ∈ l) = true := decide_eq_true (List.mem_of_getElem? h1)
    have Hd := Lib.hid hd
    clear hd h1
    have h0 : (0 : Int) ≤ i := by omega
    go_wp2_with fail
    go_ret
    exact ⟨ret_bool (by rw [Hd.out]), rfl⟩
  · have hd : decide (z ∈ l) = false := decide_eq_false h1
    have Hd := Lib.hid hd
    clear hd h1
    go_wp2_with fail
    go_ret
    exact ⟨ret_bool (by rw [Hd.out]), rfl⟩

theorem idxC_any (A : Option Addr) (n c : Nat) (l : List Int) (z : Int) (w : World) {ok : Nat → Prop} (hr : Rd w ok 1 A n (ii l)) (hn : n ≤ 1000000) :
    Calls Tryd.prog 22 #[.slice A n c, .int .i64 z] w (IdxPost w z l) := by
  have Hl := Lib.hid (ii_len hr)
  go_enter Tryd.func22, Tryd.ntmps22
  go_wp2_with fail
  go_loopg [5, 8] n (fun m s5 s8 wr => ∃ j : Nat, m = n - j ∧ j ≤ n ∧ s8 = .int .i64 j ∧ z ∉ l.take j ∧ wr = w)
  case atStart => exact ⟨0, by omega, by omega, rfl, by simp, rfl⟩
  case round =>
    obtain ⟨j, hm, hj, rfl, hno, rfl⟩ := hrel
    have Hm := Lib.hid hm
    have Hno := Lib.hid hno
    clear hm hno
    by_cases hlt : j < n
    · obtain ⟨b, o, x, rfl, _, _, hx, hc⟩ := ii_cell hr hlt
      have Hx := Lib.hid hx
      clear hx
      have hltI : (j : Int) < n := by omega
      by_cases hzx : z = x
      · subst hzx
        go_wp2_with fail
        go_ret
        exact ⟨_, rfl, .inl ⟨j, rfl, Hx.out, Hno.out⟩, rfl⟩
      · have hzf : (z == x) = false := by simpa using hzx
        go_wp2_with fail
        go_roundg (n - (j + 1))
        case measure => have := Hm.out; omega
        case rel => exact ⟨j + 1, rfl, by omega, by go_num, by rw [List.take_add_one, Hx.out]; simp only [Option.toList_some, List.mem_append, List.mem_singleton]; exact fun h => h.elim Hno.out hzx, rfl⟩
    · obtain rfl : j = n := by omega
      go_wp2_with fail
      go_ret
      exact ⟨_, rfl, .inr ⟨rfl, by have := Hno.out; rwa [List.take_of_length_le (Nat.le_of_eq Hl.out)] at this⟩, rfl⟩
theorem hasC_any (A : Option Addr) (n c : Nat) (l : List Int) (z : Int) (w : World) {ok : Nat → Prop} (hr : Rd w ok 1 A n (ii l)) (hn : n ≤ 1000000) :
    Calls Tryd.prog 24 #[.slice A n c, .int .i64 z] w (SameBool w (decide (z ∈ l))) := by
  have hidx := idxC_any A n c l z w hr hn
  have H := Lib.hid hidx
  clear hidx hr
  go_enter Tryd.func24, Tryd.ntmps24
  go_wp2_with fail
  refine H.out.mono ?_
  rintro e w' ⟨k, rfl, hk, rfl⟩
  rcases hk with ⟨i, rfl, h1, _⟩ | ⟨rfl, h1⟩
  · have hd : decide (z ∈ l) = true := decide_eq_true (List.mem_of_getElem? h1)
    have Hd := Lib.hid hd
    clear hd h1
    have h0 : (0 : Int) ≤ i := by omega
    go_wp2_with fail
    go_ret
    exact ⟨ret_bool (by rw [Hd.out]), rfl⟩
  · have hd : decide (z ∈ l) = false := decide_eq_false h1
    have Hd := Lib.hid hd
    clear hd h1
    go_wp2_with fail
    go_ret
    exact ⟨ret_bool (by rw [Hd.out]), rfl⟩

theorem in_any (A : Option Addr) (n c : Nat) (l : List Int) (z : Int) (w : World) {ok : Nat → Prop} (hr : Rd w ok 1 A n (ii l)) (hn : n ≤ 1000000) :
    Calls Tryd.prog 13 #[.slice A n c, .int .i64 z] w (SameBool w (decide (z ∈ l))) := by
  have Hl := Lib.hid (ii_len hr)
  go_enter Tryd.func13, Tryd.ntmps13
  go_wp2_with fail
  go_loopg [5] n (fun m s5 wr => ∃ j : Nat, m = n - j ∧ j ≤ n ∧ s5 = .int .i64 j ∧ z ∉ l.take j ∧ wr = w)
  case atStart => exact ⟨0, by omega, by omega, rfl, by simp, rfl⟩
  case round =>
    obtain ⟨j, hm, hj, rfl, hno, rfl⟩ := hrel
    have Hm := Lib.hid hm
    have Hno := Lib.hid hno
    clear hm hno
    by_cases hlt : j < n
    · obtain ⟨b, o, x, rfl, _, _, hx, hc⟩ := ii_cell hr hlt
      have Hx := Lib.hid hx
      clear hx
      have hltI : (j : Int) < n := by omega
      by_cases hzx : x = z
      · subst hzx
        have hd : decide (x ∈ l) = true := decide_eq_true (List.mem_of_getElem? Hx.out)
        have Hd := Lib.hid hd
        clear hd
        go_wp2_with fail
        go_ret
        exact ⟨ret_bool (by rw [Hd.out]), rfl⟩
      · have hzf : (x == z) = false := by simpa using hzx
        have hzn : ¬ z = x := fun e => hzx e.symm
        have Hzn := Lib.hid hzn
        clear hzn
        go_wp2_with fail
        go_roundg (n - (j + 1))
        case measure => have := Hm.out; omega
        case rel => exact ⟨j + 1, rfl, by omega, by go_num, by rw [List.take_add_one, Hx.out]; simp only [Option.toList_some, List.mem_append, List.mem_singleton]; exact fun h => h.elim Hno.out Hzn.out, rfl⟩
    · obtain rfl : j = n := by omega
      have hd : decide (z ∈ l) = false := decide_eq_false (by have := Hno.out; rwa [List.take_of_length_le (Nat.le_of_eq Hl.out)] at this)
      have Hd := Lib.hid hd
      clear hd
      go_wp2_with fail
      go_ret
      exact ⟨ret_bool (by rw [Hd.out]), rfl⟩
theorem incr_cons (a x : Int) (l : List Int) : incr a (x :: l) = (decide (a < x) && decide (x ≤ 64) && incr x l) := rfl
theorem drop_at {l : List Int} {j : Nat} {x : Int} (h : l[j]? = some x) : l.drop j = x :: l.drop (j + 1) := by
  obtain ⟨hj, rfl⟩ := List.getElem?_eq_some_iff.1 h
  rw [List.drop_eq_getElem_cons hj]
theorem may_any (A : Option Addr) (n c : Nat) (l : List Int) (w : World) {ok : Nat → Prop} (hr : Rd w ok 1 A n (ii l)) (hn : n ≤ 1000000) :
    Calls Tryd.prog 19 #[.slice A n c] w (SameBool w (cmay l)) := by
  have Hl := Lib.hid (ii_len hr)
  go_enter Tryd.func19, Tryd.ntmps19
  go_wp2_with fail
  go_loopg [3, 5, 8] n (fun m s3 s5 s8 wr => ∃ (j : Nat) (a : Int), m = n - j ∧ j ≤ n ∧ s8 = .int .i64 j ∧ s3 = .int .i64 a ∧ incr 0 l = incr a (l.drop j) ∧ wr = w)
  case atStart => exact ⟨0, 0, by omega, by omega, rfl, rfl, rfl, rfl⟩
  case round =>
    obtain ⟨j, a, hm, hj, rfl, rfl, hin, rfl⟩ := hrel
    have Hm := Lib.hid hm
    have Hin := Lib.hid hin
    clear hm hin
    by_cases hlt : j < n
    · obtain ⟨b, o, x, rfl, _, _, hx, hc⟩ := ii_cell hr hlt
      have Hx := Lib.hid hx
      clear hx
      have hltI : (j : Int) < n := by omega
      by_cases h1 : x ≤ a
      · have hf : cmay l = false := by
          unfold cmay
          rw [Hin.out, drop_at Hx.out, incr_cons, decide_eq_false (by omega)]
          rfl
        have Hf := Lib.hid hf
        clear hf
        go_wp2_with fail
        go_ret
        exact ⟨ret_bool (by rw [Hf.out]), rfl⟩
      · by_cases h2 : 64 < x
        · have hf : cmay l = false := by
            unfold cmay
            rw [Hin.out, drop_at Hx.out, incr_cons, decide_eq_false (p := x ≤ 64) (by omega)]
            simp
          have Hf := Lib.hid hf
          clear hf
          go_wp2_with fail
          go_ret
          exact ⟨ret_bool (by rw [Hf.out]), rfl⟩
        · have hf : incr 0 l = incr x (l.drop (j + 1)) := by
            rw [Hin.out, drop_at Hx.out, incr_cons, decide_eq_true (by omega), decide_eq_true (p := x ≤ 64) (by omega)]
            rfl
          have Hf := Lib.hid hf
          clear hf
          go_wp2_with fail
          go_roundg (n - (j + 1))
          case measure => have := Hm.out; omega
          case rel => exact ⟨j + 1, x, rfl, by omega, by go_num, rfl, Hf.out, rfl⟩
    · obtain rfl : j = n := by omega
      have hf0 : cmay l = (decide (1 ≤ j) && decide (j ≤ 7)) := by
        unfold cmay
        rw [Hin.out, Hl.out, List.drop_of_length_le (Nat.le_of_eq Hl.out)]
        simp [incr]
      by_cases h1 : (1 : Int) ≤ j
      · by_cases h2 : (j : Int) ≤ 7
        · have hf : cmay l = true := by rw [hf0, decide_eq_true (by omega), decide_eq_true (by omega)]; rfl
          have Hf := Lib.hid hf
          clear hf hf0
          go_wp2_with fail
          go_ret
          exact ⟨ret_bool (by rw [Hf.out]), rfl⟩
        · have hf : cmay l = false := by rw [hf0, decide_eq_false (p := j ≤ 7) (by omega), Bool.and_false]
          have Hf := Lib.hid hf
          clear hf hf0
          go_wp2_with fail
          go_ret
          exact ⟨ret_bool (by rw [Hf.out]), rfl⟩
      · have hf : cmay l = false := by rw [hf0, decide_eq_false (p := 1 ≤ j) (by omega), Bool.false_and]
        have Hf := Lib.hid hf
        clear hf hf0
        go_wp2_with fail
        go_ret
        exact ⟨ret_bool (by rw [Hf.out]), rfl⟩
end Go.Proofs.YtedcjakgdoiomaaDoor
