/- Walk: (*raft.Core).sendAll. (Printed by mkc11.py.)
   Walks: conf.Has, Quorum, Near. (Cut by mkq.py out of c10.)
   Contracts of the library's sort and compaction at this dump: laid by the kit's own commands in plain words.
   slices.Sort at []int, over a row of the call's own, in our words.
   Walk: conf.Agreed. (Cut by mkq.py out of c10.) -/
import Derived.Test.YtmhaahcbmdhinaaGreatDoorKW20
import Derived.Test.YtmhaahcbmdhinaaGreatDoorKW2
import Derived.Shelf.LaysM
import Derived.Ground.MpProg
import Derived.Shelf.Pu.ParseUintPublic10
import Derived.Shelf.Pu.ErrVarParseUint
import Derived.Shelf.Sort.Plain
import Derived.Shelf.Slices.In.SortNone
import Derived.Ground.SlgfProg
import Derived.Shelf.SlicesE.IndexFunc
import Derived.Test.YtmhaahcbmdhinaaGreatDoorProg
import Derived.Test.YtmhaahcbmdhinaaGreatDoorRows
import Derived.Test.YtmhaahcbmdhinaaGreatDoorKW0
import Derived.Sort.OwnSortedInts
namespace Go.Proofs.YtmhaahcbmdhinaaGreatDoor
open Go.RowKit
set_option maxRecDepth 100000
set_option linter.unusedVariables false
set_option linter.unusedSimpArgs false
def AllPost (fb : Nat) (W : World) (p : Nat) (V U : Nat → Prop) (m : Mb) (r : Cr × List Ms) (e : Ending) (w' : World) : Prop :=
  ∃ A n c X, e = .returned (.slice A n c) ∧ Rm w' W.heap.size A n c X ∧ X.map Mr.ms = r.2 ∧ CX fb w' p V U r.1 m ∧ Kept (· = m.q) W w'
theorem AllPost.out {fb p : Nat} {W w' : World} {V U : Nat → Prop} {m : Mb} {r : Cr × List Ms} {e : Ending} (hu : V m.q) (hl : ∀ b, U b → b < W.heap.size) (h : AllPost fb W p V U m r e w') : OutPost fb W p V U r e w' := by
  obtain ⟨A, n, c, X, h1, h2, h3, h4, h5⟩ := h
  exact ⟨A, n, c, X, V, U, m, h1, h2, h3, fun x hx => (h2.dt x hx).mono fun b hb hu => by have := hl b hu; have := hb.1; omega, h4, fun _ h => .inl h, fun _ h => h, fun _ h => .inl h, (Kept.refl V W).trans h5 fun b _ e => e ▸ hu⟩
set_option maxHeartbeats 6400000 in
theorem sendAll_any {fb p : Nat} {w : World} {V U : Nat → Prop} {C : Cr} {m : Mb} {k : Nat} (h : CX fb w p V U C m) (ho : C.Ok k) (he : Env fb w) :
    Calls Tryz.prog 50 #[.pointer (some ⟨p, 0, none⟩)] w (AllPost fb w p V U m C.sendAll) := by
  have hot := others_any h (h.fit ho) ho.may he.ev
  have hin := fun x (hx : x ∈ C.others) => others_in ho.may hx
  have hln := others_len ho.may
  have hqf : fb ≤ m.q := h.vf _ h.vq
  have hql := h.pm.lt
  obtain ⟨l0, hl0⟩ : ∃ l0, C.others = l0 := ⟨_, rfl⟩
  have hsa : C.sendAll = C.sendL l0 := by unfold Cr.sendAll; rw [hl0]
  rw [hl0] at hot hin hln
  rw [hsa]
  have H := Lib.hid (And.intro h (And.intro ho (And.intro he (And.intro hin (And.intro hln (And.intro hqf hql))))))
  have Hot := Lib.hid hot
  clear h ho he hot hin hln hqf hql hl0 hsa
  go_enter Tryz.func50, Tryz.ntmps50
  go_wp2_with fail
  refine Hot.out.mono ?_
  intro e w1 h1
  obtain ⟨A0, n0, c0, rfl, o0, hb1⟩ := h1
  have hl : l0.length = n0 := by have := o0.1; simpa [ii] using this
  have O := Lib.hid (And.intro o0 (And.intro hb1 hl))
  clear o0 hb1 hl
  go_wp2_with fail
  go_loopg [3, 5, 9] n0 (fun gm s3 s5 s9 wr => ∃ (j : Nat) (A : Option Addr) (c : Nat) (X : List Mr), gm = n0 - j ∧ j ≤ n0 ∧ s9 = .int .i64 j ∧ s3 = .slice A j c ∧ Rm wr w1.heap.size A j c X ∧ X.map Mr.ms = (C.sendL (l0.take j)).2 ∧ Kept (· = m.q) w1 wr ∧ Pm wr m.q (C.knowL (l0.take j)).peers)
  case atStart => exact ⟨0, none, 0, [], by omega, by omega, rfl, rfl, Rm.nil _ _, rfl, Kept.refl _ _, (H.out.1.below O.out.2.1).pm⟩
  case round =>
    obtain ⟨j, A, c, X, hm, hj, rfl, rfl, hR⟩ := hrel
    have Hm := Lib.hid hm
    have R := Lib.hid hR
    clear hm hR
    by_cases hlt : j < n0
    · have hltI : decide ((j : Int) < (n0 : Int)) = true := decide_eq_true (by omega)
      have hq1 : ∀ b, w.heap.size ≤ b → ¬ b = m.q := fun b hb e => by have := H.out.2.2.2.2.2.2; omega
      have rd := R.out.2.2.1.rd (Rd.of_own O.out.1) hq1
      obtain ⟨b, o, x, rfl, _, _, hx, hc⟩ := ii_cell rd hlt
      have hxm : x ∈ l0 := List.mem_of_getElem? hx
      have hxi := H.out.2.2.2.1 x hxm
      have htk : l0.take (j + 1) = l0.take j ++ [x] := by rw [List.take_add_one, hx]; rfl
      have hcx : CX fb wr p V U (C.knowL (l0.take j)) m := by
        rw [knowL_eta]
        exact (H.out.1.below O.out.2.1).remap R.out.2.2.1 R.out.2.2.2
      have hok : (C.knowL (l0.take j)).Ok k := H.out.2.1.knowL fun y hy => H.out.2.2.2.1 y (List.mem_of_mem_take hy)
      obtain ⟨Cj, hCj⟩ : ∃ Cj, C.knowL (l0.take j) = Cj := ⟨_, rfl⟩
      rw [hCj] at hcx hok
      have hen : Env fb wr := ((H.out.2.2.1.new O.out.2.1)).kept R.out.2.2.1 fun b e => by have := H.out.2.2.2.2.2.1; omega
      have hlast := hok.last
      have hof := of_any x hcx.drew (hcx.fit hok) hok.may (by unfold I64; omega) (by omega) (by omega)
      have c16 : ∀ W, Below wr.heap.size wr W → W.cell? ⟨p, 16, none⟩ = some (.map (some m.q)) := fun W hb => (hcx.below hb).bx.c 16
      have Hof := Lib.hid hof
      have FF := Lib.hid c16
      have HC := Lib.hid (And.intro hcx (And.intro hok (And.intro hen (And.intro hxi (And.intro htk hCj)))))
      clear rd hxm hxi htk hcx hok hCj hen hlast hof hx c16
      go_upto_region 5 with (fail)
      refine wp_region_S 8 (fun W => Below wr.heap.size wr W) (.take 0 (.take 1 (.take 2 (.take 3 (.take 4 (.take 5 (.take 6 (.one 7 (.one 8 (.nil)))))))))) (by kernel_rfl) (Below.refl _ _).drew (fun _ _ _ _ h => h) (fun hS => ?_)
      repeat (first
        | (refine wpS_take (v := ?_) rfl rfl (by rfl) ?_ ?_; rotate_left; (intro W hW; have hf := FF.out W hW; go_split_ands; go_simp; try with_reducible rfl); try simp only [Act.put, List.setIfInBounds_toArray, List.set_cons_zero, List.set_cons_succ])
        | (refine wpS_skip rfl rfl (by rfl) ?_; try simp only [Act.put, List.setIfInBounds_toArray, List.set_cons_zero, List.set_cons_succ]))
      refine wpS_one rfl (by rfl) (fun K hK => ?_)
      go_simp
      go_at_call 107
      refine (Hof.out).mono ?_
      rintro e w2 ⟨rfl, hb2⟩
      have hb2' : Below wr.heap.size wr w2 := (Below.refl _ _).drew.trans hb2
      obtain ⟨w3, hrun, hp3, hg3⟩ := (HC.out.1.below hb2').pm.put HC.out.2.2.2.1 (Cj.of x)
      unfold peV at hrun ⊢
      have HB2 := Lib.hid (And.intro hb2' (And.intro hp3 hg3))
      clear hb2 hp3 hg3
      refine hK (fun W => Below wr.heap.size wr W) _ _ (fun _ h => h) hb2' ?_
      clear hK K
      try simp only [Act.put, List.setIfInBounds_toArray, List.set_cons_zero, List.set_cons_succ]
      refine wpS_last rfl (by rfl) (fun K hK => ?_)
      go_simp
      refine hK _ _ ?_
      clear hK K
      try simp only [Act.put, List.setIfInBounds_toArray, List.set_cons_zero, List.set_cons_succ]
      refine wpS_nil ?_
      clear hb2'
      have hcx3 : CX fb w3 p V U (Cj.know x) m := (HC.out.1.below HB2.out.1).remap ((Kept.refl _ _).grown HB2.out.2.2 fun b e => by injection e with e; exact e.symm) HB2.out.2.1
      have hok3 : (Cj.know x).Ok k := HC.out.2.1.know HC.out.2.2.2.1
      have hk3 : Kept (· = m.q) wr w3 := (Kept.of_new HB2.out.1).grown HB2.out.2.2 fun b e => by injection e with e; exact e.symm
      have hen3 : Env fb w3 := HC.out.2.2.1.kept hk3 fun b e => by have := H.out.2.2.2.2.2.1; omega
      have hsd := send_any x hcx3 hok3 hen3 HC.out.2.2.2.1
      have K3 := Lib.hid (And.intro hcx3 hk3)
      have Hsd := Lib.hid hsd
      clear hcx3 hok3 hk3 hen3 hsd hrun
      go_wp2_with fail
      refine Hsd.out.mono ?_
      intro e w4 h4
      obtain ⟨y, rfl, ms4, at4, hb4⟩ := h4
      have hk4 : Kept (· = m.q) wr w4 := K3.out.2.trans (V := fun _ => False) (Kept.of_new hb4) (fun _ _ h => h.elim)
      have rm4 : Rm w4 w1.heap.size A j c X := R.out.1.kept hk4 fun b e => by
        have := H.out.2.2.2.2.2.2
        have := O.out.2.1.size
        omega
      have at4' : y.At w4 (fun b => w1.heap.size ≤ b ∧ A.map (·.block) ≠ some b) := at4.mono fun b hb => by
        have h5 := K3.out.2.size
        have h6 := R.out.2.2.1.size
        refine ⟨by omega, fun e => ?_⟩
        have h7 := (own_lt R.out.1.ow b e).2
        omega
      have hp4 : Pm w4 m.q (Cj.know x).peers := (K3.out.1.below hb4).pm
      have hz4 : w1.heap.size ≤ w4.heap.size := Nat.le_trans R.out.2.2.1.size hk4.size
      have K4 := Lib.hid (And.intro rm4 (And.intro at4' (And.intro hp4 (And.intro hk4 (And.intro ms4 hz4)))))
      have hj4 : j < 7 := by have := O.out.2.2; have := H.out.2.2.2.2.1; omega
      clear rm4 at4 at4' hp4 hk4 ms4 hb4 hz4
      unfold Mr.val
      go_wp2_with (at_builtin; refine wpList_append_any (news := mcell y) _ Tryz.underlying54 msg_elem rfl (by omega) rfl rfl rfl (K4.out.1.alloc _).ow rfl (show Rd _ _ 12 _ 1 (mcell y) from Rd.blit1 (cs := y.cells) rfl) (by intro u hu; exact mcell_one [y] u (by simpa [flat] using hu)) (by omega) (by have := K4.out.2.2.2.2.2; simp; omega) rfl rfl ?_; intro A1 c1 w6 hown1 hg1 hat1)
      go_roundg (n0 - (j + 1))
      case measure => have := Hm.out; omega
      case rel =>
        have hal : ∀ o, Below w4.heap.size w4 (w4.alloc o) := fun o => (Below.refl _ _).alloc (Nat.le_refl _) o
        refine ⟨j + 1, A1, c1, X ++ [y], rfl, by omega, rfl, rfl, ?_, ?_, ?_, ?_⟩
        · exact (K4.out.1.alloc _).push (K4.out.2.1.below (hal _)) hown1 hg1 hat1
        · rw [HC.out.2.2.2.2.1, sendL_snoc, HC.out.2.2.2.2.2, List.map_append, R.out.2.1]
          simp only [List.map_cons, List.map_nil]
          rw [K4.out.2.2.2.2.1]
        · have hgk := (Kept.refl (fun b => A.map (·.block) = some b) _).grown hg1 fun b e => e
          refine ((R.out.2.2.1.trans K4.out.2.2.2.1 fun b _ e => e).alloc _).trans hgk ?_
          intro b hb e
          have := (own_lt R.out.1.ow b e).1
          omega
        · rw [HC.out.2.2.2.2.1, knowL_snoc, HC.out.2.2.2.2.2]
          have hb6 := hg1.block m.q (by have := K4.out.2.2.1.lt; simp; omega) fun e => by
            have := (own_lt R.out.1.ow m.q e.symm).1
            have := H.out.2.2.2.2.2.2
            have := O.out.2.1.size
            omega
          exact (K4.out.2.2.1.below (hal _)).keep hb6
    · have hltI : decide ((j : Int) < (n0 : Int)) = false := decide_eq_false (by omega)
      obtain rfl : j = n0 := by omega
      go_wp2_with fail
      go_ret
      have e1 : l0.take j = l0 := List.take_of_length_le (by have := O.out.2.2; omega)
      have hR := R.out
      rw [e1] at hR
      refine ⟨A, j, c, X, rfl, hR.1.mono O.out.2.1.size, hR.2.1, ?_, ?_⟩
      · rw [sendL_fst, knowL_eta]
        exact (H.out.1.below O.out.2.1).remap hR.2.2.1 hR.2.2.2
      · exact (Kept.of_new O.out.2.1).trans hR.2.2.1 fun b _ e => e
end Go.Proofs.YtmhaahcbmdhinaaGreatDoor

namespace Go.Proofs.YtmhaahcbmdhinaaGreatDoor
open Go.RowKit
set_option maxRecDepth 100000
set_option linter.unusedVariables false
set_option linter.unusedSimpArgs false
def IdxPost (W : World) (z : Int) (l : List Int) (e : Ending) (w' : World) : Prop := ∃ k : Int, e = .returned (.int .i64 k) ∧ ((∃ i : Nat, k = i ∧ l[i]? = some z ∧ z ∉ l.take i) ∨ (k = -1 ∧ z ∉ l)) ∧ W = w'
theorem idx_any (A : Option Addr) (n c : Nat) (l : List Int) (z : Int) (w : World) {ok : Nat → Prop} (hr : Rd w ok 1 A n (ii l)) (hn : n ≤ 1000000) :
    Calls Tryz.prog 178 #[.slice A n c, .int .i64 z] w (IdxPost w z l) := by
  have Hl := Lib.hid (ii_len hr)
  go_enter Tryz.func178, Tryz.ntmps178
  go_wp2_with fail
  go_loopg [5, 8] n (fun m s5 s8 wr => ∃ j : Nat, m = n - j ∧ j ≤ n ∧ s8 = .int .i64 j ∧ z ∉ l.take j ∧ wr = w)
  case atStart => exact ⟨0, by omega, by omega, rfl, by simp, rfl⟩
  case round =>
    obtain ⟨j, hm, hj, rfl, hno, rfl⟩ := hrel
    have Hm := Lib.hid hm
    have Hno := Lib.hid hno
    clear hm hno
    by_cases hlt : j < n
    · obtain ⟨b, o, x, rfl, _, _, hx, hc⟩ := ii_cell hr hlt
      have Hx := Lib.hid hx
      clear hx
      have hltI : (j : Int) < n := by omega
      by_cases hzx : z = x
      · subst hzx
        go_wp2_with fail
        go_ret
        exact ⟨_, rfl, .inl ⟨j, rfl, Hx.out, Hno.out⟩, rfl⟩
      · have hzf : (z == x) = false := by simpa using hzx
        go_wp2_with fail
        go_roundg (n - (j + 1))
        case measure => have := Hm.out; omega
        case rel => exact ⟨j + 1, rfl, by omega, by go_num, by rw [List.take_add_one, Hx.out]; simp only [Option.toList_some, List.mem_append, List.mem_singleton]; exact fun h => h.elim Hno.out hzx, rfl⟩
    · obtain rfl : j = n := by omega
      go_wp2_with fail
      go_ret
      exact ⟨_, rfl, .inr ⟨rfl, by have := Hno.out; rwa [List.take_of_length_le (Nat.le_of_eq Hl.out)] at this⟩, rfl⟩
theorem has_any (A : Option Addr) (n c : Nat) (l : List Int) (z : Int) (w : World) {ok : Nat → Prop} (hr : Rd w ok 1 A n (ii l)) (hn : n ≤ 1000000) :
    Calls Tryz.prog 121 #[.slice A n c, .int .i64 z] w (SameBool w (decide (z ∈ l))) := by
  have hidx := idx_any A n c l z w hr hn
  have H := Lib.hid hidx
  clear hidx hr
  go_enter Tryz.func121, Tryz.ntmps121
  go_wp2_with fail
  refine H.out.mono ?_
  rintro e w' ⟨k, rfl, hk, rfl⟩
  rcases hk with ⟨i, rfl, h1, _⟩ | ⟨rfl, h1⟩
  · have hd : decide (z ∈ l) = true := decide_eq_true (List.mem_of_getElem? h1)
    have Hd := Lib.hid hd
    clear hd h1
    have h0 : (0 : Int) ≤ i := by omega
    go_wp2_with fail
    go_ret
    exact ⟨ret_bool (by rw [Hd.out]), rfl⟩
  · have hd : decide (z ∈ l) = false := decide_eq_false h1
    have Hd := Lib.hid hd
    clear hd h1
    go_wp2_with fail
    go_ret
    exact ⟨ret_bool (by rw [Hd.out]), rfl⟩
theorem idxC_any (A : Option Addr) (n c : Nat) (l : List Int) (z : Int) (w : World) {ok : Nat → Prop} (hr : Rd w ok 1 A n (ii l)) (hn : n ≤ 1000000) :
    Calls Tryz.prog 135 #[.slice A n c, .int .i64 z] w (IdxPost w z l) := by
  have Hl := Lib.hid (ii_len hr)
  go_enter Tryz.func135, Tryz.ntmps135
  go_wp2_with fail
  go_loopg [5, 8] n (fun m s5 s8 wr => ∃ j : Nat, m = n - j ∧ j ≤ n ∧ s8 = .int .i64 j ∧ z ∉ l.take j ∧ wr = w)
  case atStart => exact ⟨0, by omega, by omega, rfl, by simp, rfl⟩
  case round =>
    obtain ⟨j, hm, hj, rfl, hno, rfl⟩ := hrel
    have Hm := Lib.hid hm
    have Hno := Lib.hid hno
    clear hm hno
    by_cases hlt : j < n
    · obtain ⟨b, o, x, rfl, _, _, hx, hc⟩ := ii_cell hr hlt
      have Hx := Lib.hid hx
      clear hx
      have hltI : (j : Int) < n := by omega
      by_cases hzx : z = x
      · subst hzx
        go_wp2_with fail
        go_ret
        exact ⟨_, rfl, .inl ⟨j, rfl, Hx.out, Hno.out⟩, rfl⟩
      · have hzf : (z == x) = false := by simpa using hzx
        go_wp2_with fail
        go_roundg (n - (j + 1))
        case measure => have := Hm.out; omega
        case rel => exact ⟨j + 1, rfl, by omega, by go_num, by rw [List.take_add_one, Hx.out]; simp only [Option.toList_some, List.mem_append, List.mem_singleton]; exact fun h => h.elim Hno.out hzx, rfl⟩
    · obtain rfl : j = n := by omega
      go_wp2_with fail
      go_ret
      exact ⟨_, rfl, .inr ⟨rfl, by have := Hno.out; rwa [List.take_of_length_le (Nat.le_of_eq Hl.out)] at this⟩, rfl⟩
theorem hasC_any (A : Option Addr) (n c : Nat) (l : List Int) (z : Int) (w : World) {ok : Nat → Prop} (hr : Rd w ok 1 A n (ii l)) (hn : n ≤ 1000000) :
    Calls Tryz.prog 170 #[.slice A n c, .int .i64 z] w (SameBool w (decide (z ∈ l))) := by
  have hidx := idxC_any A n c l z w hr hn
  have H := Lib.hid hidx
  clear hidx hr
  go_enter Tryz.func170, Tryz.ntmps170
  go_wp2_with fail
  refine H.out.mono ?_
  rintro e w' ⟨k, rfl, hk, rfl⟩
  rcases hk with ⟨i, rfl, h1, _⟩ | ⟨rfl, h1⟩
  · have hd : decide (z ∈ l) = true := decide_eq_true (List.mem_of_getElem? h1)
    have Hd := Lib.hid hd
    clear hd h1
    have h0 : (0 : Int) ≤ i := by omega
    go_wp2_with fail
    go_ret
    exact ⟨ret_bool (by rw [Hd.out]), rfl⟩
  · have hd : decide (z ∈ l) = false := decide_eq_false h1
    have Hd := Lib.hid hd
    clear hd h1
    go_wp2_with fail
    go_ret
    exact ⟨ret_bool (by rw [Hd.out]), rfl⟩
theorem filt_len (p : Int → Bool) (l : List Int) (j : Nat) : ((l.take j).filter p).length ≤ j := by
  have h1 := List.length_filter_le p (l.take j)
  rw [List.length_take] at h1
  omega
theorem filt_at {p : Int → Bool} {l : List Int} {j : Nat} {x : Int} (h : l[j]? = some x) : ((l.take (j + 1)).filter p).length = ((l.take j).filter p).length + if p x then 1 else 0 := by
  rw [List.take_add_one, h]
  simp only [Option.toList_some, List.filter_append, List.length_append]
  rw [List.filter_cons]
  split <;> simp
def cP (s : List Int) (x : Int) : Bool := decide (x ∈ s)
def aP (s : List Int) (x : Int) : Bool := !decide (x ∈ s)
theorem quorum_any (A : Option Addr) (n c : Nat) (l : List Int) (B : Option Addr) (m d : Nat) (s : List Int) (w : World) {ok ok' : Nat → Prop} (hr : Rd w ok 1 A n (ii l)) (hn : n ≤ 1000000) (hs : Rd w ok' 1 B m (ii s)) (hm : m ≤ 1000000) :
    Calls Tryz.prog 61 #[.slice A n c, .slice B m d] w (SameBool w (quor l s)) := by
  have Hl := Lib.hid (ii_len hr)
  have hhas := fun x => has_any B m d s x w hs hm
  have hmay := cmay_any A n c l w hr hn
  have Hhas := Lib.hid hhas
  have Hmay := Lib.hid hmay
  clear hhas hmay
  go_enter Tryz.func61, Tryz.ntmps61
  go_wp2_with fail
  go_loopg [5, 7, 10] n (fun r s5 s7 s10 wr => ∃ j : Nat, r = n - j ∧ j ≤ n ∧ s10 = .int .i64 j ∧ s5 = .int .i64 ((((l.take j).filter (cP s)).length : Nat) : Int) ∧ wr = w)
  case atStart => exact ⟨0, by omega, by omega, rfl, rfl, rfl⟩
  case round =>
    obtain ⟨j, hrm, hj, rfl, rfl, rfl⟩ := hrel
    have Hrm := Lib.hid hrm
    clear hrm
    by_cases hlt : j < n
    · obtain ⟨b, o, x, rfl, _, _, hx, hc⟩ := ii_cell hr hlt
      have hft := filt_at (p := cP s) hx
      have hfl := filt_len (cP s) l j
      have Hft := Lib.hid hft
      have hltI : (j : Int) < n := by omega
      clear hx hft
      generalize ((l.take j).filter (cP s)).length = k at hfl Hft
      go_wp2_with fail
      refine (Hhas.out x).mono ?_
      rintro e w' ⟨rfl, rfl⟩
      rcases hd : decide (x ∈ s) with _ | _
      · have hk : ((l.take (j + 1)).filter (cP s)).length = k := by rw [Hft.out, cP, hd]; rfl
        have Hk := Lib.hid hk
        clear hk hd
        go_wp2_with fail
        go_roundg (n - (j + 1))
        case measure => have := Hrm.out; omega
        case rel => exact ⟨j + 1, rfl, by omega, by go_num, by rw [Hk.out], rfl⟩
      · have hk : ((l.take (j + 1)).filter (cP s)).length = k + 1 := by rw [Hft.out, cP, hd]; rfl
        have Hk := Lib.hid hk
        clear hk hd
        go_wp2_with fail
        go_roundg (n - (j + 1))
        case measure => have := Hrm.out; omega
        case rel => exact ⟨j + 1, rfl, by omega, by go_num, by rw [Hk.out]; go_num, rfl⟩
    · obtain rfl : j = n := by omega
      have hq : quor l s = (cmay l && decide (j < 2 * ((l.take j).filter (cP s)).length)) := by
        unfold quor cnt
        rw [List.take_of_length_le (Nat.le_of_eq Hl.out), Hl.out]
        rfl
      have hfl := filt_len (cP s) l j
      generalize ((l.take j).filter (cP s)).length = k at hq hfl
      go_wp2_with fail
      refine Hmay.out.mono ?_
      rintro e w' ⟨rfl, rfl⟩
      rcases hcm : cmay l with _ | _
      · rw [hcm, Bool.false_and] at hq
        have Hq := Lib.hid hq
        clear hq hcm
        go_wp2_with fail
        go_ret
        exact ⟨ret_bool (by rw [Hq.out]), rfl⟩
      · rw [hcm, Bool.true_and] at hq
        have hw2 : IntKind.i64.wrap ((j : Int).tdiv 2) = ((j / 2 : Nat) : Int) := by
          rw [Int.tdiv_eq_ediv_of_nonneg (by omega), IntKind.wrap_i64]
          omega
        obtain ⟨h2, hh2⟩ : ∃ h2, h2 = j / 2 := ⟨_, rfl⟩
        rw [← hh2] at hw2
        have e1 : ((j : Int) / 2) = (h2 : Int) := by omega
        have hw3 : IntKind.i64.wrap ((h2 : Nat) : Int) = (h2 : Int) := by rw [IntKind.wrap_i64]; omega
        by_cases hgt : (h2 : Int) < k
        · have hq2 : quor l s = true := by rw [hq]; exact decide_eq_true (by omega)
          have Hq := Lib.hid hq2
          clear hq hq2 hcm hh2
          go_wp2_with fail
          go_ret
          exact ⟨ret_bool (by rw [Hq.out]), rfl⟩
        · have hq2 : quor l s = false := by rw [hq]; exact decide_eq_false (by omega)
          have Hq := Lib.hid hq2
          have hgd : decide (h2 < k) = false := decide_eq_false (by omega)
          clear hq hq2 hcm hh2
          go_wp2_with fail
          go_ret
          exact ⟨ret_bool (by rw [Hq.out]), rfl⟩
theorem apart_le (a b : List Int) : apart a b ≤ a.length := List.length_filter_le _ _
theorem apart_any (A : Option Addr) (n c : Nat) (l : List Int) (B : Option Addr) (m d : Nat) (s : List Int) (w : World) {ok ok' : Nat → Prop} (hr : Rd w ok 1 A n (ii l)) (hn : n ≤ 1000000) (hs : Rd w ok' 1 B m (ii s)) (hm : m ≤ 1000000) :
    Calls Tryz.prog 176 #[.slice A n c, .slice B m d] w fun e w' => e = .returned (.int .i64 (apart l s : Nat)) ∧ w = w' := by
  have Hl := Lib.hid (ii_len hr)
  obtain ⟨q, hq0⟩ : ∃ q, q = apart l s := ⟨_, rfl⟩
  rw [← hq0]
  have Hq0 := Lib.hid hq0
  clear hq0
  have hhas := fun x => hasC_any B m d s x w hs hm
  have Hhas := Lib.hid hhas
  clear hhas
  go_enter Tryz.func176, Tryz.ntmps176
  go_wp2_with fail
  go_loopg [5, 7, 10] n (fun r s5 s7 s10 wr => ∃ j : Nat, r = n - j ∧ j ≤ n ∧ s10 = .int .i64 j ∧ s5 = .int .i64 ((((l.take j).filter (aP s)).length : Nat) : Int) ∧ wr = w)
  case atStart => exact ⟨0, by omega, by omega, rfl, rfl, rfl⟩
  case round =>
    obtain ⟨j, hrm, hj, rfl, rfl, rfl⟩ := hrel
    have Hrm := Lib.hid hrm
    clear hrm
    by_cases hlt : j < n
    · obtain ⟨b, o, x, rfl, _, _, hx, hc⟩ := ii_cell hr hlt
      have hft := filt_at (p := aP s) hx
      have hfl := filt_len (aP s) l j
      have Hft := Lib.hid hft
      have hltI : (j : Int) < n := by omega
      clear hx hft
      generalize ((l.take j).filter (aP s)).length = k at hfl Hft
      go_wp2_with fail
      refine (Hhas.out x).mono ?_
      rintro e w' ⟨rfl, rfl⟩
      rcases hd : decide (x ∈ s) with _ | _
      · have hk : ((l.take (j + 1)).filter (aP s)).length = k + 1 := by rw [Hft.out, aP, hd]; rfl
        have Hk := Lib.hid hk
        clear hk hd
        go_wp2_with fail
        go_roundg (n - (j + 1))
        case measure => have := Hrm.out; omega
        case rel => exact ⟨j + 1, rfl, by omega, by go_num, by rw [Hk.out]; go_num, rfl⟩
      · have hk : ((l.take (j + 1)).filter (aP s)).length = k := by rw [Hft.out, aP, hd]; rfl
        have Hk := Lib.hid hk
        clear hk hd
        go_wp2_with fail
        go_roundg (n - (j + 1))
        case measure => have := Hrm.out; omega
        case rel => exact ⟨j + 1, rfl, by omega, by go_num, by rw [Hk.out], rfl⟩
    · obtain rfl : j = n := by omega
      have hq : ((l.take j).filter (aP s)).length = q := by
        rw [Hq0.out]
        unfold apart
        rw [List.take_of_length_le (Nat.le_of_eq Hl.out)]
        rfl
      rw [hq]
      clear hq
      go_wp2_with fail
      go_ret
      exact ⟨rfl, rfl⟩
theorem near_any (A : Option Addr) (n c : Nat) (l : List Int) (B : Option Addr) (m d : Nat) (s : List Int) (w : World) {ok ok' : Nat → Prop} (hr : Rd w ok 1 A n (ii l)) (hn : n ≤ 1000000) (hs : Rd w ok' 1 B m (ii s)) (hm : m ≤ 1000000) :
    Calls Tryz.prog 115 #[.slice A n c, .slice B m d] w (SameBool w (near l s)) := by
  have hm1 := cmay_any A n c l w hr hn
  have hm2 := cmay_any B m d s w hs hm
  have ha1 := apart_any A n c l B m d s w hr hn hs hm
  have ha2 := apart_any B m d s A n c l w hs hm hr hn
  have hq : near l s = (cmay l && cmay s && decide (apart l s + apart s l ≤ 1)) := rfl
  have hl1 : apart l s ≤ 1000000 := by have := apart_le l s; rw [ii_len hr] at this; omega
  have hl2 : apart s l ≤ 1000000 := by have := apart_le s l; rw [ii_len hs] at this; omega
  generalize apart l s = k1 at ha1 hq hl1
  generalize apart s l = k2 at ha2 hq hl2
  have Hm1 := Lib.hid hm1
  have Hm2 := Lib.hid hm2
  have Ha1 := Lib.hid ha1
  have Ha2 := Lib.hid ha2
  clear hm1 hm2 ha1 ha2
  go_enter Tryz.func115, Tryz.ntmps115
  go_wp2_with fail
  refine Hm1.out.mono ?_
  rintro e w' ⟨rfl, rfl⟩
  rcases hc1 : cmay l with _ | _
  · rw [hc1, Bool.false_and, Bool.false_and] at hq
    have Hq := Lib.hid hq
    clear hq hc1
    go_wp2_with fail
    go_ret
    exact ⟨ret_bool Hq.out.symm, rfl⟩
  · rw [hc1, Bool.true_and] at hq
    have Hq0 := Lib.hid hq
    clear hq hc1
    go_wp2_with fail
    refine Hm2.out.mono ?_
    rintro e w' ⟨rfl, rfl⟩
    have hq := Hq0.out
    clear Hq0
    rcases hc2 : cmay s with _ | _
    · rw [hc2, Bool.false_and] at hq
      have Hq := Lib.hid hq
      clear hq hc2
      go_wp2_with fail
      go_ret
      exact ⟨ret_bool Hq.out.symm, rfl⟩
    · rw [hc2, Bool.true_and] at hq
      have Hq := Lib.hid hq
      clear hq hc2
      go_wp2_with fail
      refine Ha1.out.mono ?_
      rintro e w' ⟨rfl, rfl⟩
      go_wp2_with fail
      refine Ha2.out.mono ?_
      rintro e w' ⟨rfl, rfl⟩
      have hw : IntKind.i64.wrap ((k1 : Int) + (k2 : Int)) = ((k1 + k2 : Nat) : Int) := by rw [IntKind.wrap_i64]; omega
      by_cases hk : (k1 : Int) + (k2 : Int) ≤ 1
      · have hq := Hq.out
        rw [decide_eq_true (by omega)] at hq
        have Hq2 := Lib.hid hq
        clear hq
        go_wp2_with fail
        go_ret
        exact ⟨ret_bool Hq2.out.symm, rfl⟩
      · have hq := Hq.out
        rw [decide_eq_false (by omega)] at hq
        have Hq2 := Lib.hid hq
        have hkd : decide ((k1 : Int) + (k2 : Int) ≤ 1) = false := decide_eq_false hk
        clear hq
        go_wp2_with fail
        go_ret
        exact ⟨ret_bool Hq2.out.symm, rfl⟩
theorem hasM_any (A : Option Addr) (n c : Nat) (l : List Int) (z : Int) (w : World) {ok : Nat → Prop} (hr : Rd w ok 1 A n (ii l)) (hn : n ≤ 1000000) :
    Calls Tryz.prog 109 #[.slice A n c, .int .i64 z] w (SameBool w (cmay l && decide (z ∈ l))) := by
  have hmay := cmay_any A n c l w hr hn
  have hhas := hasC_any A n c l z w hr hn
  generalize cmay l = q at hmay
  generalize decide (z ∈ l) = p at hhas
  have Hmay := Lib.hid hmay
  have Hhas := Lib.hid hhas
  clear hr hmay hhas
  go_enter Tryz.func109, Tryz.ntmps109
  go_wp2_with fail
  refine Hmay.out.mono ?_
  rintro e w1 ⟨rfl, rfl⟩
  cases q
  · go_wp2_with fail
    go_ret
    exact ⟨rfl, rfl⟩
  · go_wp2_with fail
    refine Hhas.out.mono ?_
    rintro e w1 ⟨rfl, rfl⟩
    go_wp2_with fail
    go_ret
    exact ⟨rfl, rfl⟩
end Go.Proofs.YtmhaahcbmdhinaaGreatDoor

namespace Go.Proofs
open Go.Shelf
set_option maxRecDepth 100000
def Tryz.lays189_ren : Go.Shelf.Ren := ⟨fun | 189 => 177 | 125 => 213 | 257 => 212 | 128 => 233 | 129 => 234 | 294 => 225 | 295 => 226 | 296 => 227 | 297 => 228 | 298 => 229 | 299 => 230 | 216 => 184 | 300 => 231 | 301 => 232 | 328 => 244 | 329 => 245 | 330 => 246 | 331 => 247 | 332 => 248 | 215 => 218 | 343 => 256 | n => n, fun | 28 => 25 | 3 => 3 | 46 => 82 | 0 => 0 | 51 => 327 | 53 => 214 | 4 => 4 | 183 => 321 | 182 => 320 | 131 => 206 | 5 => 5 | 9 => 9 | 218 => 337 | 222 => 341 | 228 => 350 | 229 => 74 | n => n, fun | n => n⟩
theorem Tryz.lays189 : Go.Proofs.Lays.n189 Tryz.prog Tryz.lays189_ren := {
  mixed := by kernel_rfl
  f125 := Tryz.func213.trans (congrArg some (by kernel_rfl))
  f128 := Tryz.func233.trans (congrArg some (by kernel_rfl))
  f129 := Tryz.func234.trans (congrArg some (by kernel_rfl))
  f189 := Tryz.func177.trans (congrArg some (by kernel_rfl))
  f215 := Tryz.func218.trans (congrArg some (by kernel_rfl))
  f216 := Tryz.func184.trans (congrArg some (by kernel_rfl))
  f257 := Tryz.func212.trans (congrArg some (by kernel_rfl))
  f294 := Tryz.func225.trans (congrArg some (by kernel_rfl))
  f295 := Tryz.func226.trans (congrArg some (by kernel_rfl))
  f296 := Tryz.func227.trans (congrArg some (by kernel_rfl))
  f297 := Tryz.func228.trans (congrArg some (by kernel_rfl))
  f298 := Tryz.func229.trans (congrArg some (by kernel_rfl))
  f299 := Tryz.func230.trans (congrArg some (by kernel_rfl))
  f300 := Tryz.func231.trans (congrArg some (by kernel_rfl))
  f301 := Tryz.func232.trans (congrArg some (by kernel_rfl))
  f328 := Tryz.func244.trans (congrArg some (by kernel_rfl))
  f329 := Tryz.func245.trans (congrArg some (by kernel_rfl))
  f330 := Tryz.func246.trans (congrArg some (by kernel_rfl))
  f331 := Tryz.func247.trans (congrArg some (by kernel_rfl))
  f332 := Tryz.func248.trans (congrArg some (by kernel_rfl))
  f343 := Tryz.func256.trans (congrArg some (by kernel_rfl))
  t0 := Tryz.underlying0
  a0 := Tryz.isAgg0
  z0 := Tryz.sizeOf0
  v0 := Tryz.zeroValue0
  t3 := Tryz.underlying3
  a3 := Tryz.isAgg3
  z3 := Tryz.sizeOf3
  v3 := Tryz.zeroValue3
  t4 := Tryz.underlying4
  a4 := Tryz.isAgg4
  z4 := Tryz.sizeOf4
  v4 := Tryz.zeroValue4
  t5 := Tryz.underlying5
  a5 := Tryz.isAgg5
  z5 := Tryz.sizeOf5
  v5 := Tryz.zeroValue5
  t9 := Tryz.underlying9
  a9 := Tryz.isAgg9
  z9 := Tryz.sizeOf9
  v9 := Tryz.zeroValue9
  t28 := Tryz.underlying25
  a28 := Tryz.isAgg25
  z28 := Tryz.sizeOf25
  v28 := Tryz.zeroValue25
  t46 := Tryz.underlying82
  a46 := Tryz.isAgg82
  z46 := Tryz.sizeOf82
  v46 := Tryz.zeroValue82
  t51 := Tryz.underlying327
  a51 := Tryz.isAgg327
  z51 := Tryz.sizeOf327
  v51 := Tryz.zeroValue327
  t53 := Tryz.underlying214
  a53 := Tryz.isAgg214
  z53 := Tryz.sizeOf214
  v53 := Tryz.zeroValue214
  t131 := Tryz.underlying206
  a131 := Tryz.isAgg206
  z131 := Tryz.sizeOf206
  v131 := Tryz.zeroValue206
  t182 := Tryz.underlying320
  a182 := Tryz.isAgg320
  z182 := Tryz.sizeOf320
  v182 := Tryz.zeroValue320
  t183 := Tryz.underlying321
  a183 := Tryz.isAgg321
  z183 := Tryz.sizeOf321
  v183 := Tryz.zeroValue321
  t218 := Tryz.underlying337
  a218 := Tryz.isAgg337
  z218 := Tryz.sizeOf337
  v218 := Tryz.zeroValue337
  t222 := Tryz.underlying341
  a222 := Tryz.isAgg341
  z222 := Tryz.sizeOf341
  v222 := Tryz.zeroValue341
  t228 := Tryz.underlying350
  a228 := Tryz.isAgg350
  z228 := Tryz.sizeOf350
  v228 := Tryz.zeroValue350
  t229 := Tryz.underlying74
  a229 := Tryz.isAgg74
  z229 := Tryz.sizeOf74
  v229 := Tryz.zeroValue74 }
open Go.Sort Go.RowKit in
theorem Tryz.slices_Sort_int (blk off cap : Nat) (zs : List Int) (w : World) (hH : Holds (Value.int .i64) w blk off zs.toArray) (hblk : blk < w.heap.size) (hsz : zs.length < 4611686018427387904) :
    Calls Tryz.prog 177 #[.slice (some ⟨blk, off, none⟩) zs.length cap] w fun e w' =>
      e = .returned (.tuple #[]) ∧ ∃ n os, w' = grow (putRow (Value.int .i64) (Sort.ahead w n) blk off (zs.mergeSort fun x y => decide (x ≤ y)).toArray) os := Any.slices_Sort_int Tryz.lays189 blk off cap zs w hH hblk hsz
open Go.RowKit Go.Sort in
/-- .. and plain. (LAID: no walk: one application.) -/
theorem Tryz.slices_Sort_int_none (p : Option Addr) (cap : Nat) (w : World) :
    Calls Tryz.prog 177 #[.slice p 0 cap] w fun e w' => e = .returned (.tuple #[]) ∧ w' = w := Any.slices_Sort_int_none Tryz.lays189 p cap w
end Go.Proofs

namespace Go.Proofs.YtmhaahcbmdhinaaGreatDoor
open Go.RowKit Go.Sort
set_option maxRecDepth 100000
set_option linter.unusedVariables false
set_option linter.unusedSimpArgs false
def SortPost (W : World) (B : Nat) (A : Option Addr) (n c : Nat) (zs : List Int) (e : Ending) (w' : World) : Prop :=
  e = .returned (.tuple #[]) ∧ w'.ownsRow B 3 1 (.slice A n c) n (ii zs) ∧ W.grownBy w' (A.map (·.block))
theorem sort_any (B : Nat) (A : Option Addr) (n c : Nat) (zs : List Int) (w : World) (h : w.ownsRow B 3 1 (.slice A n c) n (ii zs)) (hn : n ≤ 1000000) :
    Calls Tryz.prog 177 #[.slice A n c] w (SortPost w B A n c (zs.mergeSort fun x y => decide (x ≤ y))) := by
  have hl : zs.length = n := by have := h.1; simpa [ii] using this
  rcases Nat.eq_zero_or_pos n with h0 | h0
  · subst h0
    have hz : zs = [] := List.eq_nil_of_length_eq_zero hl
    subst hz
    refine (Tryz.slices_Sort_int_none A c w).mono ?_
    rintro e w' ⟨rfl, rfl⟩
    exact ⟨rfl, by simpa using h, World.grownBy.refl _ _⟩
  · rcases h.2 with ⟨h1, h2⟩ | ⟨g, cap, cur, hv, hbase, hb, h1, h2, h3, h4⟩
    · omega
    · injection hv with hv1 _ hv3
      subst hv1 hv3
      subst hl
      have hH : Holds (Value.int .i64) w g 0 zs.toArray := holds_of_blockI hb (by simpa [ii] using h4)
      refine (Tryz.slices_Sort_int g 0 c zs w hH (Array.getElem?_eq_some_iff.1 hb).1 (by omega)).mono ?_
      rintro e w' ⟨rfl, nn, os, rfl⟩
      exact ⟨rfl, ownsRow_sortedI (by simp) hbase hb h1 h2 h3, grownBy_sortedI _⟩
end Go.Proofs.YtmhaahcbmdhinaaGreatDoor

namespace Go.Proofs.YtmhaahcbmdhinaaGreatDoor
open Go.RowKit
set_option maxRecDepth 100000
set_option linter.unusedVariables false
set_option linter.unusedSimpArgs false
def mkc (x : Mk) : List Value := [.int .i64 x.m, .int .i64 x.n]
theorem mkc_len (x : Mk) : (mkc x).length = 2 := rfl
theorem mk_cells {w : World} {ok : Nat → Prop} {n : Nat} {A : Option Addr} {l : List Mk} (h : Rd w ok 2 A n (flat mkc l)) {j : Nat} (hj : j < n) : ∃ b o x, A = some ⟨b, o, none⟩ ∧ ok b ∧ b < w.heap.size ∧ l[j]? = some x ∧
    w.cell? ⟨b, o + j * 2, none⟩ = some (.int .i64 x.m) ∧ w.cell? ⟨b, o + j * 2 + 1, none⟩ = some (.int .i64 x.n) := by
  obtain ⟨b, o, x, hA, hb, hlt, hx, hc⟩ := h.fat mkc_len (by omega) hj
  exact ⟨b, o, x, hA, hb, hlt, hx, hc 0 _ rfl, hc 1 _ rfl⟩
theorem mark_elem : Elem Tryz.prog 190 (.agg #[.int .i64 0, .int .i64 0]) 2 16 := by unfold Elem; kernel_rfl
theorem Rd.blit {w : World} {cs : Array Value} {t : TypeId} {fr : Nat × Nat} {k : Nat} (hk : cs.size = k) : Rd (w.alloc (.cells cs t fr)) (w.heap.size ≤ ·) k (some ⟨w.heap.size, 0, none⟩) 1 cs.toList := by
  refine ⟨by simpa using hk, fun _ => ⟨_, rfl, Nat.le_refl _, fun j u hu => ?_⟩⟩
  exact World.news_of_block (heap_alloc_new w _) j u hu
theorem reach_at {l : List Mk} {i : Nat} {x : Mk} (h : l[i]? = some x) (who : Int) : reach (l.take (i + 1)) who = if x.m = who then max (reach (l.take i) who) x.n else reach (l.take i) who := by
  unfold reach
  rw [List.take_add_one, h]
  simp only [Option.toList_some, List.foldl_append, List.foldl_cons, List.foldl_nil]
theorem reaches_at {l : List Mk} {c : List Int} {j : Nat} {who : Int} (h : c[j]? = some who) : ii (reaches l (c.take (j + 1))) = ii (reaches l (c.take j)) ++ [.int .i64 (reach l who)] := by
  unfold reaches ii
  rw [List.take_add_one, h]
  simp
set_option maxHeartbeats 3200000 in
theorem agreed_any (A : Option Addr) (n c : Nat) (l : List Int) (B : Option Addr) (m d : Nat) (ms : List Mk) (w : World) {ok ok' : Nat → Prop} (hr : Rd w ok 1 A n (ii l)) (hn : n ≤ 1000000) (hs : Rd w ok' 2 B m (flat mkc ms)) (hm : m ≤ 1000000) :
    Calls Tryz.prog 118 #[.slice A n c, .slice B m d] w (IntPost w (agreed l ms)) := by
  have Hl := Lib.hid (ii_len hr)
  have Hls := Lib.hid (hs.flen mkc_len (by omega))
  have hmay := cmay_any A n c l w hr hn
  have Hmay := Lib.hid hmay
  have Hr := Lib.hid hr
  have Hs := Lib.hid hs
  clear hmay hr hs
  obtain ⟨V, hV⟩ : ∃ V, V = agreed l ms := ⟨_, rfl⟩
  rw [← hV]
  have HV := Lib.hid hV
  clear hV
  go_enter Tryz.func118, Tryz.ntmps118
  go_wp2_with fail
  refine Hmay.out.mono ?_
  rintro e w' ⟨rfl, rfl⟩
  rcases hc1 : cmay l with _ | _
  · have hv : V = 0 := by rw [HV.out]; unfold agreed; rw [hc1]; rfl
    have Hv := Lib.hid hv
    clear hv hc1
    go_wp2_with fail
    go_ret
    exact ⟨ret_int Hv.out.symm, Below.refl _ _⟩
  · have hcm := cmay_iff.1 hc1
    have hn7 : n ≤ 7 := by have := Hl.out; omega
    have hn1 : 1 ≤ n := by have := Hl.out; omega
    have hv : V = (srt (reaches ms l)).getD ((n - 1) / 2) 0 := by rw [HV.out]; unfold agreed; rw [hc1, if_pos rfl, Hl.out]
    have Hv := Lib.hid hv
    clear hv hc1 hcm
    go_wp2_with fail
    go_loopg [5, 7, 8, 10, 16] n (fun r s5 s7 s8 s10 s16 wr => ∃ (j : Nat) (A' : Option Addr) (c' : Nat), r = n - j ∧ j ≤ n ∧ s16 = .int .i64 j ∧ s5 = .slice A' j c' ∧ wr.ownsRow w.heap.size 3 1 (.slice A' j c') j (ii (reaches ms (l.take j))) ∧ Below w.heap.size w wr)
    case atStart => exact ⟨0, none, 0, by omega, by omega, rfl, rfl, World.ownsRow_nil _ _ _ _, Below.refl _ _⟩
    case round =>
      obtain ⟨j, A', c', hrm, hj, rfl, rfl, hown, hb⟩ := hrel
      have Hrm := Lib.hid hrm
      clear hrm
      by_cases hlt : j < n
      · obtain ⟨b, o, x, rfl, _, _, hx, hc⟩ := ii_cell (Hr.out.below hb) hlt
        have hft := reaches_at (l := ms) hx
        have Hft := Lib.hid hft
        have hltI : (j : Int) < n := by omega
        have Hown := Lib.hid hown
        have Hb := Lib.hid hb
        clear hx hft hown hb
        go_wp2_with fail
        go_loopg [8, 10, 22] m (fun r s8 s10 s22 wr2 => ∃ i : Nat, r = m - i ∧ i ≤ m ∧ s22 = .int .i64 i ∧ s8 = .int .i64 (reach (ms.take i) x) ∧ Below wr.heap.size wr wr2)
        case atStart => exact ⟨0, by omega, by omega, rfl, rfl, Below.refl _ _⟩
        case round =>
          obtain ⟨i, hrm, hi, rfl, rfl, hb2⟩ := hrel
          have Hrm2 := Lib.hid hrm
          clear hrm
          by_cases hlt2 : i < m
          · obtain ⟨b2, o2, y, rfl, _, _, hy, hc0, hc2⟩ := mk_cells ((Hs.out.below Hb.out).below hb2) hlt2
            have hra := reach_at hy x
            have hlt2I : (i : Int) < m := by omega
            clear hy
            generalize reach (ms.take i) x = ra at hra
            by_cases hyx : y.m = x
            · have e1 : (y.m == x) = true := by simpa using hyx
              rw [if_pos hyx] at hra
              have Hra := Lib.hid hra
              clear hra
              by_cases hle : ra ≤ y.n
              · have hmx : max ra y.n = y.n := by omega
                go_wp2_with fail
                all_goals
                  go_roundg (m - (i + 1))
                  case measure => have := Hrm2.out; omega
                  case rel => exact ⟨i + 1, rfl, by omega, by go_num, by rw [Hra.out]; first | rfl | (congr 1; omega), hb2.alloc hb2.size _⟩
              · have hmx : max ra y.n = ra := by omega
                go_wp2_with fail
                all_goals
                  go_roundg (m - (i + 1))
                  case measure => have := Hrm2.out; omega
                  case rel => exact ⟨i + 1, rfl, by omega, by go_num, by rw [Hra.out]; first | rfl | (congr 1; omega), hb2.alloc hb2.size _⟩
            · have e1 : (y.m == x) = false := by simpa using hyx
              rw [if_neg hyx] at hra
              have Hra := Lib.hid hra
              clear hra
              go_wp2_with fail
              go_roundg (m - (i + 1))
              case measure => have := Hrm2.out; omega
              case rel => exact ⟨i + 1, rfl, by omega, by go_num, by rw [Hra.out], hb2.alloc hb2.size _⟩
          · obtain rfl : i = m := by omega
            rw [List.take_of_length_le (Nat.le_of_eq Hls.out)]
            have hz1 := Hb.out.size
            have hz2 := hb2.size
            have hown2 := own_below Hown.out hb2
            generalize reach ms x = rx at Hft
            go_wp2_with (at_builtin; refine wpList_append_any (news := [.int .i64 rx]) _ Tryz.underlying25 int_elem rfl (by omega) rfl rfl rfl (hown2.alloc _) rfl (Rd.blit rfl).any (by intro u hu; simp only [List.mem_cons, List.not_mem_nil, or_false] at hu; rcases hu with rfl; rfl) (by omega) (by simp; omega) rfl rfl ?_; intro A1 c1 w1 hown1 hg1 hat1)
            go_roundg (n - (j + 1))
            case measure => have := Hrm.out; omega
            case rel => exact ⟨j + 1, A1, c1, rfl, by omega, by go_num, rfl, by rw [Hft.out]; exact hown1, ((Hb.out.trans (hb2.mono hz1)).alloc (by omega) _).grown hg1 (by simp; omega) (fun k hk => (own_lt Hown.out k hk).1)⟩
      · obtain rfl : j = n := by omega
        rw [List.take_of_length_le (Nat.le_of_eq Hl.out)] at hown
        have hsrt := sort_any w.heap.size A' j c' (reaches ms l) wr hown (by omega)
        have Hsrt := Lib.hid hsrt
        have Hown := Lib.hid hown
        clear hsrt hown
        go_wp2_with fail
        refine Hsrt.out.mono ?_
        rintro e w5 ⟨rfl, hown5, hg5⟩
        have hb5 := hb.grown hg5 hb.size (fun k hk => (own_lt Hown.out k hk).1)
        obtain ⟨b, o, z, rfl, _, _, hz, hcz⟩ := ii_cell (Rd.of_own hown5) (show (j - 1) / 2 < j by omega)
        have hvz : V = z := by
          rw [Hv.out, List.getD_eq_getElem?_getD]
          change (srt (reaches ms l))[(j - 1) / 2]? = some z at hz
          rw [hz]
          rfl
        have Hvz := Lib.hid hvz
        have Hb5 := Lib.hid hb5
        clear hz hvz hb5 hown5
        have h7 : j = 1 ∨ j = 2 ∨ j = 3 ∨ j = 4 ∨ j = 5 ∨ j = 6 ∨ j = 7 := by omega
        rcases h7 with rfl | rfl | rfl | rfl | rfl | rfl | rfl
        all_goals
          simp only [Nat.reduceSub, Nat.reduceDiv, Nat.add_zero] at hcz
          go_wp2_with fail
          go_ret
          exact ⟨ret_int Hvz.out.symm, Hb5.out⟩
end Go.Proofs.YtmhaahcbmdhinaaGreatDoor

