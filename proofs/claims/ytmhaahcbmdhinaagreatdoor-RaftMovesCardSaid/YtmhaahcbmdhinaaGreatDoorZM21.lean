/- Walk: (*raft.Core).sendAll
   Walks: conf.Has, Quorum, Near
   Contracts of the library's sort and compaction at this dump: laid by the kit's own commands in plain words.
   slices.Sort at []int, over a row of the call's own, in our words.
   Walk: conf.Agreed
   Walk: (*raft.Core).advance -/
import Derived.Test.YtmhaahcbmdhinaaGreatDoorZM20
import Derived.Test.YtmhaahcbmdhinaaGreatDoorZM1
import Derived.Shelf.LaysM
import Derived.Ground.MpProg
import Derived.Shelf.Pu.ParseUintPublic10
import Derived.Shelf.Pu.ErrVarParseUint
import Derived.Shelf.Sort.Plain
import Derived.Shelf.Slices.In.SortNone
import Derived.Ground.SlgfProg
import Derived.Shelf.SlicesE.IndexFunc
import Derived.Test.YtmhaahcbmdhinaaGreatDoorProg
import Derived.Test.YtmhaahcbmdhinaaGreatDoorRows
import Derived.Test.YtmhaahcbmdhinaaGreatDoorZM0
import Derived.Sort.OwnSortedInts
namespace Go.Proofs.YtmhaahcbmdhinaaGreatDoor
open Go.RowKit
set_option maxRecDepth 100000
set_option linter.unusedVariables false
set_option linter.unusedSimpArgs false
def AllPost (fb : Nat) (W : World) (p : Nat) (V U : Nat → Prop) (m : Mb) (r : Cr × List Ms) (e : Ending) (w' : World) : Prop :=
 ∃ A n c X, e = .returned (.slice A n c) ∧ Rm w' W.heap.size A n c X ∧ X.map Mr.ms = r.2 ∧ CX fb w' p V U r.1 m ∧ Kept (· = m.q) W w'
theorem AllPost.out {fb p : Nat} {W w' : World} {V U : Nat → Prop} {m : Mb} {r : Cr × List Ms} {e : Ending} (hu : V m.q) (hl : ∀ b, U b → b < W.heap.size) (h : AllPost fb W p V U m r e w') : OutPost fb W p V U r e w' := by
 obtain ⟨A, n, c, X, h1, h2, h3, h4, h5⟩ := h
 exact ⟨A, n, c, X, V, U, m, h1, h2, h3, fun x hx => (h2.dt x hx).mono fun b hb hu => by have := hl b hu; have := hb.1; omega, h4, fun _ h => .inl h, fun _ h => h, fun _ h => .inl h, (Kept.refl V W).trans h5 fun b _ e => e ▸ hu⟩
set_option maxHeartbeats 6400000 in
theorem sendAll_any {fb p : Nat} {w : World} {V U : Nat → Prop} {C : Cr} {m : Mb} {k : Nat} (h : CX fb w p V U C m) (ho : C.Ok k) (he : Env fb w) :
  Calls Tryz.prog 50 #[.pointer (some ⟨p, 0, none⟩)] w (AllPost fb w p V U m C.sendAll) := by
 have hot := others_any h (h.fit ho) ho.may he.ev
 have hin := fun x (hx : x ∈ C.others) => others_in ho.may hx
 have hln := others_len ho.may
 have hqf : fb ≤ m.q := h.vf _ h.vq
 have hql := h.pm.lt
 obtain ⟨l0, hl0⟩ : ∃ l0, C.others = l0 := ⟨_, rfl⟩
 have hsa : C.sendAll = C.sendL l0 := by unfold Cr.sendAll; rw [hl0]
 rw [hl0] at hot hin hln
 rw [hsa]
 have H := Lib.hid (And.intro h (And.intro ho (And.intro he (And.intro hin (And.intro hln (And.intro hqf hql))))))
 have Hot := Lib.hid hot
 clear h ho he hot hin hln hqf hql hl0 hsa
 go_enter Tryz.func50, Tryz.ntmps50
 go_wp2_with fail
 refine Hot.out.mono ?_
 intro e w1 h1
 obtain ⟨A0, n0, c0, rfl, o0, hb1⟩ := h1
 have hl : l0.length = n0 := by have := o0.1; simpa [ii] using this
 have O := Lib.hid (And.intro o0 (And.intro hb1 hl))
 clear o0 hb1 hl
 go_wp2_with fail
 go_loopg [3, 5, 9] n0 (fun gm s3 s5 s9 wr => ∃ (j : Nat) (A : Option Addr) (c : Nat) (X : List Mr), gm = n0 - j ∧ j ≤ n0 ∧ s9 = .int .i64 j ∧ s3 = .slice A j c ∧ Rm wr w1.heap.size A j c X ∧ X.map Mr.ms = (C.sendL (l0.take j)).2 ∧ Kept (· = m.q) w1 wr ∧ Pm wr m.q (C.knowL (l0.take j)).peers)
 case atStart => exact ⟨0, none, 0, [], by omega, by omega, rfl, rfl, Rm.nil _ _, rfl, Kept.refl _ _, (H.out.1.below O.out.2.1).pm⟩
 case round =>
  obtain ⟨j, A, c, X, hm, hj, rfl, rfl, hR⟩ := hrel
  have Hm := Lib.hid hm
  have R := Lib.hid hR
  clear hm hR
  by_cases hlt : j < n0
  ·have hltI : decide ((j : Int) < (n0 : Int)) = true := decide_eq_true (by omega)
   have hq1 : ∀ b, w.heap.size ≤ b → ¬ b = m.q := fun b hb e => by have := H.out.2.2.2.2.2.2; omega
   have rd := R.out.2.2.1.rd (Rd.of_own O.out.1) hq1
   obtain ⟨b, o, x, rfl, _, _, hx, hc⟩ := ii_cell rd hlt
   have hxm : x ∈ l0 := List.mem_of_getElem? hx
   have hxi := H.out.2.2.2.1 x hxm
   have htk : l0.take (j + 1) = l0.take j ++ [x] := by rw [List.take_add_one, hx]; rfl
   have hcx : CX fb wr p V U (C.knowL (l0.take j)) m := by
    rw [knowL_eta]
    exact (H.out.1.below O.out.2.1).remap R.out.2.2.1 R.out.2.2.2
   have hok : (C.knowL (l0.take j)).Ok k := H.out.2.1.knowL fun y hy => H.out.2.2.2.1 y (List.mem_of_mem_take hy)
   obtain ⟨Cj, hCj⟩ : ∃ Cj, C.knowL (l0.take j) = Cj := ⟨_, rfl⟩
   rw [hCj] at hcx hok
   have hen : Env fb wr := ((H.out.2.2.1.new O.out.2.1)).kept R.out.2.2.1 fun b e => by have := H.out.2.2.2.2.2.1; omega
   have hlast := hok.last
   have hof := of_any x hcx.drew (hcx.fit hok) hok.may (by unfold I64; omega) (by omega) (by omega)
   have c16 : ∀ W, Below wr.heap.size wr W → W.cell? ⟨p, 16, none⟩ = some (.map (some m.q)) := fun W hb => (hcx.below hb).bx.c 16
   have Hof := Lib.hid hof
   have FF := Lib.hid c16
   have HC := Lib.hid (And.intro hcx (And.intro hok (And.intro hen (And.intro hxi (And.intro htk hCj)))))
   clear rd hxm hxi htk hcx hok hCj hen hlast hof hx c16
   go_upto_region 5 with (fail)
   refine wp_region_S 8 (fun W => Below wr.heap.size wr W) (.take 0 (.take 1 (.take 2 (.take 3 (.take 4 (.take 5 (.take 6 (.one 7 (.one 8 (.nil)))))))))) (by kernel_rfl) (Below.refl _ _).drew (fun _ _ _ _ h => h) (fun hS => ?_)
   repeat (first
    | (refine wpS_take (v := ?_) rfl rfl (by rfl) ?_ ?_; rotate_left; (intro W hW; have hf := FF.out W hW; go_split_ands; go_simp; try with_reducible rfl); try simp only [Act.put, lyA, lyB, lyC])
    | (refine wpS_skip rfl rfl (by rfl) ?_; try simp only [Act.put, lyA, lyB, lyC]))
   refine wpS_one rfl (by rfl) (fun K hK => ?_)
   go_simp
   go_at_call 107
   refine (Hof.out).mono ?_
   rintro e w2 ⟨rfl, hb2⟩
   have hb2' : Below wr.heap.size wr w2 := (Below.refl _ _).drew.trans hb2
   obtain ⟨w3, hrun, hp3, hg3⟩ := (HC.out.1.below hb2').pm.put HC.out.2.2.2.1 (Cj.of x)
   unfold peV at hrun ⊢
   have HB2 := Lib.hid (And.intro hb2' (And.intro hp3 hg3))
   clear hb2 hp3 hg3
   refine hK (fun W => Below wr.heap.size wr W) _ _ (fun _ h => h) hb2' ?_
   clear hK K
   try simp only [Act.put, lyA, lyB, lyC]
   refine wpS_last rfl (by rfl) (fun K hK => ?_)
   go_simp
   refine hK _ _ ?_
   clear hK K
   try simp only [Act.put, lyA, lyB, lyC]
   refine wpS_nil ?_
   clear hb2'
   have hcx3 : CX fb w3 p V U (Cj.know x) m := (HC.out.1.below HB2.out.1).remap ((Kept.refl _ _).grown HB2.out.2.2 fun b e => by injection e with e; exact e.symm) HB2.out.2.1
   have hok3 : (Cj.know x).Ok k := HC.out.2.1.know HC.out.2.2.2.1
   have hk3 : Kept (· = m.q) wr w3 := (Kept.of_new HB2.out.1).grown HB2.out.2.2 fun b e => by injection e with e; exact e.symm
   have hen3 : Env fb w3 := HC.out.2.2.1.kept hk3 fun b e => by have := H.out.2.2.2.2.2.1; omega
   have hsd := send_any x hcx3 hok3 hen3 HC.out.2.2.2.1
   have K3 := Lib.hid (And.intro hcx3 hk3)
   have Hsd := Lib.hid hsd
   clear hcx3 hok3 hk3 hen3 hsd hrun
   go_wp2_with fail
   refine Hsd.out.mono ?_
   intro e w4 h4
   obtain ⟨y, rfl, ms4, at4, hb4⟩ := h4
   have hk4 : Kept (· = m.q) wr w4 := K3.out.2.trans (V := fun _ => False) (Kept.of_new hb4) (fun _ _ h => h.elim)
   have rm4 : Rm w4 w1.heap.size A j c X := R.out.1.kept hk4 fun b e => by
    have := H.out.2.2.2.2.2.2
    have := O.out.2.1.size
    omega
   have at4' : y.At w4 (fun b => w1.heap.size ≤ b ∧ A.map (·.block) ≠ some b) := at4.mono fun b hb => by
    have h5 := K3.out.2.size
    have h6 := R.out.2.2.1.size
    refine ⟨by omega, fun e => ?_⟩
    have h7 := (own_lt R.out.1.ow b e).2
    omega
   have hp4 : Pm w4 m.q (Cj.know x).peers := (K3.out.1.below hb4).pm
   have hz4 : w1.heap.size ≤ w4.heap.size := Nat.le_trans R.out.2.2.1.size hk4.size
   have K4 := Lib.hid (And.intro rm4 (And.intro at4' (And.intro hp4 (And.intro hk4 (And.intro ms4 hz4)))))
   have hj4 : j < 7 := by have := O.out.2.2; have := H.out.2.2.2.2.1; omega
   clear rm4 at4 at4' hp4 hk4 ms4 hb4 hz4
   unfold Mr.val
   go_wp2_with (at_builtin; refine wpList_append_any (news := mcell y) _ Tryz.underlying54 msg_elem rfl (by omega) rfl rfl rfl (K4.out.1.alloc _).ow rfl (show Rd _ _ 12 _ 1 (mcell y) from Rd.blit1 (cs := y.cells) rfl) (by intro u hu; exact mcell_one [y] u (by simpa [flat] using hu)) (by omega) (by have := K4.out.2.2.2.2.2; simp; omega) rfl rfl ?_; intro A1 c1 w6 hown1 hg1 hat1)
   go_roundg (n0 - (j + 1))
   case measure => have := Hm.out; omega
   case rel =>
    have hal : ∀ o, Below w4.heap.size w4 (w4.alloc o) := fun o => (Below.refl _ _).alloc (Nat.le_refl _) o
    refine ⟨j + 1, A1, c1, X ++ [y], rfl, by omega, rfl, rfl, ?_, ?_, ?_, ?_⟩
    ·exact (K4.out.1.alloc _).push (K4.out.2.1.below (hal _)) hown1 hg1 hat1
    ·rw [HC.out.2.2.2.2.1, sendL_snoc, HC.out.2.2.2.2.2, List.map_append, R.out.2.1]
     simp only [List.map_cons, List.map_nil]
     rw [K4.out.2.2.2.2.1]
    ·have hgk := (Kept.refl (fun b => A.map (·.block) = some b) _).grown hg1 fun b e => e
     refine ((R.out.2.2.1.trans K4.out.2.2.2.1 fun b _ e => e).alloc _).trans hgk ?_
     intro b hb e
     have := (own_lt R.out.1.ow b e).1
     omega
    ·rw [HC.out.2.2.2.2.1, knowL_snoc, HC.out.2.2.2.2.2]
     have hb6 := hg1.block m.q (by have := K4.out.2.2.1.lt; simp; omega) fun e => by
      have := (own_lt R.out.1.ow m.q e.symm).1
      have := H.out.2.2.2.2.2.2
      have := O.out.2.1.size
      omega
     exact (K4.out.2.2.1.below (hal _)).keep hb6
  ·have hltI : decide ((j : Int) < (n0 : Int)) = false := decide_eq_false (by omega)
   obtain rfl : j = n0 := by omega
   go_wp2_with fail
   go_ret
   have e1 : l0.take j = l0 := List.take_of_length_le (by have := O.out.2.2; omega)
   have hR := R.out
   rw [e1] at hR
   refine ⟨A, j, c, X, rfl, hR.1.mono O.out.2.1.size, hR.2.1, ?_, ?_⟩
   ·rw [sendL_fst, knowL_eta]
    exact (H.out.1.below O.out.2.1).remap hR.2.2.1 hR.2.2.2
   ·exact (Kept.of_new O.out.2.1).trans hR.2.2.1 fun b _ e => e
def IdxPost (W : World) (z : Int) (l : List Int) (e : Ending) (w' : World) : Prop := ∃ k : Int, e = .returned (.int .i64 k) ∧ ((∃ i : Nat, k = i ∧ l[i]? = some z ∧ z ∉ l.take i) ∨ (k = -1 ∧ z ∉ l)) ∧ W = w'
theorem idx_any (A : Option Addr) (n c : Nat) (l : List Int) (z : Int) (w : World) {ok : Nat → Prop} (hr : Rd w ok 1 A n (ii l)) (hn : n ≤ 1000000) :
  Calls Tryz.prog 178 #[.slice A n c, .int .i64 z] w (IdxPost w z l) := by
 have Hl := Lib.hid (ii_len hr)
 go_enter Tryz.func178, Tryz.ntmps178
 go_wp2_with fail
 go_loopg [5, 8] n (fun m s5 s8 wr => ∃ j : Nat, m = n - j ∧ j ≤ n ∧ s8 = .int .i64 j ∧ z ∉ l.take j ∧ wr = w)
 case atStart => exact ⟨0, by omega, by omega, rfl, by simp, rfl⟩
 case round =>
  obtain ⟨j, hm, hj, rfl, hno, rfl⟩ := hrel
  have Hm := Lib.hid hm
  have Hno := Lib.hid hno
  clear hm hno
  by_cases hlt : j < n
  ·obtain ⟨b, o, x, rfl, _, _, hx, hc⟩ := ii_cell hr hlt
   have Hx := Lib.hid hx
   clear hx
   have hltI : (j : Int) < n := by omega
   by_cases hzx : z = x
   ·subst hzx
    go_wp2_with fail
    go_ret
    exact ⟨_, rfl, .inl ⟨j, rfl, Hx.out, Hno.out⟩, rfl⟩
   ·have hzf : (z == x) = false := by simpa using hzx
    go_wp2_with fail
    go_roundg (n - (j + 1))
    case measure => have := Hm.out; omega
    case rel => exact ⟨j + 1, rfl, by omega, by go_num, by rw [List.take_add_one, Hx.out]; simp only [Option.toList_some, List.mem_append, List.mem_singleton]; exact fun h => h.elim Hno.out hzx, rfl⟩
  ·obtain rfl : j = n := by omega
   go_wp2_with fail
   go_ret
   exact ⟨_, rfl, .inr ⟨rfl, by have := Hno.out; rwa [List.take_of_length_le (Nat.le_of_eq Hl.out)] at this⟩, rfl⟩
theorem has_any (A : Option Addr) (n c : Nat) (l : List Int) (z : Int) (w : World) {ok : Nat → Prop} (hr : Rd w ok 1 A n (ii l)) (hn : n ≤ 1000000) :
  Calls Tryz.prog 121 #[.slice A n c, .int .i64 z] w (SameBool w (decide (z ∈ l))) := by
 have hidx := idx_any A n c l z w hr hn
 have H := Lib.hid hidx
 clear hidx hr
 go_enter Tryz.func121, Tryz.ntmps121
 go_wp2_with fail
 refine H.out.mono ?_
 rintro e w' ⟨k, rfl, hk, rfl⟩
 rcases hk with ⟨i, rfl, h1, _⟩ | ⟨rfl, h1⟩
 ·have hd : decide (z ∈ l) = true := decide_eq_true (List.mem_of_getElem? h1)
  have Hd := Lib.hid hd
  clear hd h1
  have h0 : (0 : Int) ≤ i := by omega
  go_wp2_with fail
  go_ret
  exact ⟨ret_bool (by rw [Hd.out]), rfl⟩
 ·have hd : decide (z ∈ l) = false := decide_eq_false h1
  have Hd := Lib.hid hd
  clear hd h1
  go_wp2_with fail
  go_ret
  exact ⟨ret_bool (by rw [Hd.out]), rfl⟩
theorem idxC_any (A : Option Addr) (n c : Nat) (l : List Int) (z : Int) (w : World) {ok : Nat → Prop} (hr : Rd w ok 1 A n (ii l)) (hn : n ≤ 1000000) :
  Calls Tryz.prog 135 #[.slice A n c, .int .i64 z] w (IdxPost w z l) := by
 have Hl := Lib.hid (ii_len hr)
 go_enter Tryz.func135, Tryz.ntmps135
 go_wp2_with fail
 go_loopg [5, 8] n (fun m s5 s8 wr => ∃ j : Nat, m = n - j ∧ j ≤ n ∧ s8 = .int .i64 j ∧ z ∉ l.take j ∧ wr = w)
 case atStart => exact ⟨0, by omega, by omega, rfl, by simp, rfl⟩
 case round =>
  obtain ⟨j, hm, hj, rfl, hno, rfl⟩ := hrel
  have Hm := Lib.hid hm
  have Hno := Lib.hid hno
  clear hm hno
  by_cases hlt : j < n
  ·obtain ⟨b, o, x, rfl, _, _, hx, hc⟩ := ii_cell hr hlt
   have Hx := Lib.hid hx
   clear hx
   have hltI : (j : Int) < n := by omega
   by_cases hzx : z = x
   ·subst hzx
    go_wp2_with fail
    go_ret
    exact ⟨_, rfl, .inl ⟨j, rfl, Hx.out, Hno.out⟩, rfl⟩
   ·have hzf : (z == x) = false := by simpa using hzx
    go_wp2_with fail
    go_roundg (n - (j + 1))
    case measure => have := Hm.out; omega
    case rel => exact ⟨j + 1, rfl, by omega, by go_num, by rw [List.take_add_one, Hx.out]; simp only [Option.toList_some, List.mem_append, List.mem_singleton]; exact fun h => h.elim Hno.out hzx, rfl⟩
  ·obtain rfl : j = n := by omega
   go_wp2_with fail
   go_ret
   exact ⟨_, rfl, .inr ⟨rfl, by have := Hno.out; rwa [List.take_of_length_le (Nat.le_of_eq Hl.out)] at this⟩, rfl⟩
theorem hasC_any (A : Option Addr) (n c : Nat) (l : List Int) (z : Int) (w : World) {ok : Nat → Prop} (hr : Rd w ok 1 A n (ii l)) (hn : n ≤ 1000000) :
  Calls Tryz.prog 170 #[.slice A n c, .int .i64 z] w (SameBool w (decide (z ∈ l))) := by
 have hidx := idxC_any A n c l z w hr hn
 have H := Lib.hid hidx
 clear hidx hr
 go_enter Tryz.func170, Tryz.ntmps170
 go_wp2_with fail
 refine H.out.mono ?_
 rintro e w' ⟨k, rfl, hk, rfl⟩
 rcases hk with ⟨i, rfl, h1, _⟩ | ⟨rfl, h1⟩
 ·have hd : decide (z ∈ l) = true := decide_eq_true (List.mem_of_getElem? h1)
  have Hd := Lib.hid hd
  clear hd h1
  have h0 : (0 : Int) ≤ i := by omega
  go_wp2_with fail
  go_ret
  exact ⟨ret_bool (by rw [Hd.out]), rfl⟩
 ·have hd : decide (z ∈ l) = false := decide_eq_false h1
  have Hd := Lib.hid hd
  clear hd h1
  go_wp2_with fail
  go_ret
  exact ⟨ret_bool (by rw [Hd.out]), rfl⟩
theorem filt_len (p : Int → Bool) (l : List Int) (j : Nat) : ((l.take j).filter p).length ≤ j := by
 have h1 := List.length_filter_le p (l.take j)
 rw [List.length_take] at h1
 omega
theorem filt_at {p : Int → Bool} {l : List Int} {j : Nat} {x : Int} (h : l[j]? = some x) : ((l.take (j + 1)).filter p).length = ((l.take j).filter p).length + if p x then 1 else 0 := by
 rw [List.take_add_one, h]
 simp only [Option.toList_some, List.filter_append, List.length_append]
 rw [List.filter_cons]
 split <;> simp
def cP (s : List Int) (x : Int) : Bool := decide (x ∈ s)
def aP (s : List Int) (x : Int) : Bool := !decide (x ∈ s)
theorem quorum_any (A : Option Addr) (n c : Nat) (l : List Int) (B : Option Addr) (m d : Nat) (s : List Int) (w : World) {ok ok' : Nat → Prop} (hr : Rd w ok 1 A n (ii l)) (hn : n ≤ 1000000) (hs : Rd w ok' 1 B m (ii s)) (hm : m ≤ 1000000) :
  Calls Tryz.prog 61 #[.slice A n c, .slice B m d] w (SameBool w (quor l s)) := by
 have Hl := Lib.hid (ii_len hr)
 have hhas := fun x => has_any B m d s x w hs hm
 have hmay := cmay_any A n c l w hr hn
 have Hhas := Lib.hid hhas
 have Hmay := Lib.hid hmay
 clear hhas hmay
 go_enter Tryz.func61, Tryz.ntmps61
 go_wp2_with fail
 go_loopg [5, 7, 10] n (fun r s5 s7 s10 wr => ∃ j : Nat, r = n - j ∧ j ≤ n ∧ s10 = .int .i64 j ∧ s5 = .int .i64 ((((l.take j).filter (cP s)).length : Nat) : Int) ∧ wr = w)
 case atStart => exact ⟨0, by omega, by omega, rfl, rfl, rfl⟩
 case round =>
  obtain ⟨j, hrm, hj, rfl, rfl, rfl⟩ := hrel
  have Hrm := Lib.hid hrm
  clear hrm
  by_cases hlt : j < n
  ·obtain ⟨b, o, x, rfl, _, _, hx, hc⟩ := ii_cell hr hlt
   have hft := filt_at (p := cP s) hx
   have hfl := filt_len (cP s) l j
   have Hft := Lib.hid hft
   have hltI : (j : Int) < n := by omega
   clear hx hft
   generalize ((l.take j).filter (cP s)).length = k at hfl Hft
   go_wp2_with fail
   refine (Hhas.out x).mono ?_
   rintro e w' ⟨rfl, rfl⟩
   rcases hd : decide (x ∈ s) with _ | _
   ·have hk : ((l.take (j + 1)).filter (cP s)).length = k := by rw [Hft.out, cP, hd]; rfl
    have Hk := Lib.hid hk
    clear hk hd
    go_wp2_with fail
    go_roundg (n - (j + 1))
    case measure => have := Hrm.out; omega
    case rel => exact ⟨j + 1, rfl, by omega, by go_num, by rw [Hk.out], rfl⟩
   ·have hk : ((l.take (j + 1)).filter (cP s)).length = k + 1 := by rw [Hft.out, cP, hd]; rfl
    have Hk := Lib.hid hk
    clear hk hd
    go_wp2_with fail
    go_roundg (n - (j + 1))
    case measure => have := Hrm.out; omega
    case rel => exact ⟨j + 1, rfl, by omega, by go_num, by rw [Hk.out]; go_num, rfl⟩
  ·obtain rfl : j = n := by omega
   have hq : quor l s = (cmay l && decide (j < 2 * ((l.take j).filter (cP s)).length)) := by
    unfold quor cnt
    rw [List.take_of_length_le (Nat.le_of_eq Hl.out), Hl.out]
    rfl
   have hfl := filt_len (cP s) l j
   generalize ((l.take j).filter (cP s)).length = k at hq hfl
   go_wp2_with fail
   refine Hmay.out.mono ?_
   rintro e w' ⟨rfl, rfl⟩
   rcases hcm : cmay l with _ | _
   ·rw [hcm, Bool.false_and] at hq
    have Hq := Lib.hid hq
    clear hq hcm
    go_wp2_with fail
    go_ret
    exact ⟨ret_bool (by rw [Hq.out]), rfl⟩
   ·rw [hcm, Bool.true_and] at hq
    have hw2 : IntKind.i64.wrap ((j : Int).tdiv 2) = ((j / 2 : Nat) : Int) := by
     rw [Int.tdiv_eq_ediv_of_nonneg (by omega), IntKind.wrap_i64]
     omega
    obtain ⟨h2, hh2⟩ : ∃ h2, h2 = j / 2 := ⟨_, rfl⟩
    rw [← hh2] at hw2
    have e1 : ((j : Int) / 2) = (h2 : Int) := by omega
    have hw3 : IntKind.i64.wrap ((h2 : Nat) : Int) = (h2 : Int) := by rw [IntKind.wrap_i64]; omega
    by_cases hgt : (h2 : Int) < k
    ·have hq2 : quor l s = true := by rw [hq]; exact decide_eq_true (by omega)
     have Hq := Lib.hid hq2
     clear hq hq2 hcm hh2
     go_wp2_with fail
     go_ret
     exact ⟨ret_bool (by rw [Hq.out]), rfl⟩
    ·have hq2 : quor l s = false := by rw [hq]; exact decide_eq_false (by omega)
     have Hq := Lib.hid hq2
     have hgd : decide (h2 < k) = false := decide_eq_false (by omega)
     clear hq hq2 hcm hh2
     go_wp2_with fail
     go_ret
     exact ⟨ret_bool (by rw [Hq.out]), rfl⟩
theorem apart_le (a b : List Int) : apart a b ≤ a.length := List.length_filter_le _ _
theorem apart_any (A : Option Addr) (n c : Nat) (l : List Int) (B : Option Addr) (m d : Nat) (s : List Int) (w : World) {ok ok' : Nat → Prop} (hr : Rd w ok 1 A n (ii l)) (hn : n ≤ 1000000) (hs : Rd w ok' 1 B m (ii s)) (hm : m ≤ 1000000) :
  Calls Tryz.prog 176 #[.slice A n c, .slice B m d] w fun e w' => e = .returned (.int .i64 (apart l s : Nat)) ∧ w = w' := by
 have Hl := Lib.hid (ii_len hr)
 obtain ⟨q, hq0⟩ : ∃ q, q = apart l s := ⟨_, rfl⟩
 rw [← hq0]
 have Hq0 := Lib.hid hq0
 clear hq0
 have hhas := fun x => hasC_any B m d s x w hs hm
 have Hhas := Lib.hid hhas
 clear hhas
 go_enter Tryz.func176, Tryz.ntmps176
 go_wp2_with fail
 go_loopg [5, 7, 10] n (fun r s5 s7 s10 wr => ∃ j : Nat, r = n - j ∧ j ≤ n ∧ s10 = .int .i64 j ∧ s5 = .int .i64 ((((l.take j).filter (aP s)).length : Nat) : Int) ∧ wr = w)
 case atStart => exact ⟨0, by omega, by omega, rfl, rfl, rfl⟩
 case round =>
  obtain ⟨j, hrm, hj, rfl, rfl, rfl⟩ := hrel
  have Hrm := Lib.hid hrm
  clear hrm
  by_cases hlt : j < n
  ·obtain ⟨b, o, x, rfl, _, _, hx, hc⟩ := ii_cell hr hlt
   have hft := filt_at (p := aP s) hx
   have hfl := filt_len (aP s) l j
   have Hft := Lib.hid hft
   have hltI : (j : Int) < n := by omega
   clear hx hft
   generalize ((l.take j).filter (aP s)).length = k at hfl Hft
   go_wp2_with fail
   refine (Hhas.out x).mono ?_
   rintro e w' ⟨rfl, rfl⟩
   rcases hd : decide (x ∈ s) with _ | _
   ·have hk : ((l.take (j + 1)).filter (aP s)).length = k + 1 := by rw [Hft.out, aP, hd]; rfl
    have Hk := Lib.hid hk
    clear hk hd
    go_wp2_with fail
    go_roundg (n - (j + 1))
    case measure => have := Hrm.out; omega
    case rel => exact ⟨j + 1, rfl, by omega, by go_num, by rw [Hk.out]; go_num, rfl⟩
   ·have hk : ((l.take (j + 1)).filter (aP s)).length = k := by rw [Hft.out, aP, hd]; rfl
    have Hk := Lib.hid hk
    clear hk hd
    go_wp2_with fail
    go_roundg (n - (j + 1))
    case measure => have := Hrm.out; omega
    case rel => exact ⟨j + 1, rfl, by omega, by go_num, by rw [Hk.out], rfl⟩
  ·obtain rfl : j = n := by omega
   have hq : ((l.take j).filter (aP s)).length = q := by
    rw [Hq0.out]
    unfold apart
    rw [List.take_of_length_le (Nat.le_of_eq Hl.out)]
    rfl
   rw [hq]
   clear hq
   go_wp2_with fail
   go_ret
   exact ⟨rfl, rfl⟩
theorem near_any (A : Option Addr) (n c : Nat) (l : List Int) (B : Option Addr) (m d : Nat) (s : List Int) (w : World) {ok ok' : Nat → Prop} (hr : Rd w ok 1 A n (ii l)) (hn : n ≤ 1000000) (hs : Rd w ok' 1 B m (ii s)) (hm : m ≤ 1000000) :
  Calls Tryz.prog 115 #[.slice A n c, .slice B m d] w (SameBool w (near l s)) := by
 have hm1 := cmay_any A n c l w hr hn
 have hm2 := cmay_any B m d s w hs hm
 have ha1 := apart_any A n c l B m d s w hr hn hs hm
 have ha2 := apart_any B m d s A n c l w hs hm hr hn
 have hq : near l s = (cmay l && cmay s && decide (apart l s + apart s l ≤ 1)) := rfl
 have hl1 : apart l s ≤ 1000000 := by have := apart_le l s; rw [ii_len hr] at this; omega
 have hl2 : apart s l ≤ 1000000 := by have := apart_le s l; rw [ii_len hs] at this; omega
 generalize apart l s = k1 at ha1 hq hl1
 generalize apart s l = k2 at ha2 hq hl2
 have Hm1 := Lib.hid hm1
 have Hm2 := Lib.hid hm2
 have Ha1 := Lib.hid ha1
 have Ha2 := Lib.hid ha2
 clear hm1 hm2 ha1 ha2
 go_enter Tryz.func115, Tryz.ntmps115
 go_wp2_with fail
 refine Hm1.out.mono ?_
 rintro e w' ⟨rfl, rfl⟩
 rcases hc1 : cmay l with _ | _
 ·rw [hc1, Bool.false_and, Bool.false_and] at hq
  have Hq := Lib.hid hq
  clear hq hc1
  go_wp2_with fail
  go_ret
  exact ⟨ret_bool Hq.out.symm, rfl⟩
 ·rw [hc1, Bool.true_and] at hq
  have Hq0 := Lib.hid hq
  clear hq hc1
  go_wp2_with fail
  refine Hm2.out.mono ?_
  rintro e w' ⟨rfl, rfl⟩
  have hq := Hq0.out
  clear Hq0
  rcases hc2 : cmay s with _ | _
  ·rw [hc2, Bool.false_and] at hq
   have Hq := Lib.hid hq
   clear hq hc2
   go_wp2_with fail
   go_ret
   exact ⟨ret_bool Hq.out.symm, rfl⟩
  ·rw [hc2, Bool.true_and] at hq
   have Hq := Lib.hid hq
   clear hq hc2
   go_wp2_with fail
   refine Ha1.out.mono ?_
   rintro e w' ⟨rfl, rfl⟩
   go_wp2_with fail
   refine Ha2.out.mono ?_
   rintro e w' ⟨rfl, rfl⟩
   have hw : IntKind.i64.wrap ((k1 : Int) + (k2 : Int)) = ((k1 + k2 : Nat) : Int) := by rw [IntKind.wrap_i64]; omega
   by_cases hk : (k1 : Int) + (k2 : Int) ≤ 1
   ·have hq := Hq.out
    rw [decide_eq_true (by omega)] at hq
    have Hq2 := Lib.hid hq
    clear hq
    go_wp2_with fail
    go_ret
    exact ⟨ret_bool Hq2.out.symm, rfl⟩
   ·have hq := Hq.out
    rw [decide_eq_false (by omega)] at hq
    have Hq2 := Lib.hid hq
    have hkd : decide ((k1 : Int) + (k2 : Int) ≤ 1) = false := decide_eq_false hk
    clear hq
    go_wp2_with fail
    go_ret
    exact ⟨ret_bool Hq2.out.symm, rfl⟩
theorem hasM_any (A : Option Addr) (n c : Nat) (l : List Int) (z : Int) (w : World) {ok : Nat → Prop} (hr : Rd w ok 1 A n (ii l)) (hn : n ≤ 1000000) :
  Calls Tryz.prog 109 #[.slice A n c, .int .i64 z] w (SameBool w (cmay l && decide (z ∈ l))) := by
 have hmay := cmay_any A n c l w hr hn
 have hhas := hasC_any A n c l z w hr hn
 generalize cmay l = q at hmay
 generalize decide (z ∈ l) = p at hhas
 have Hmay := Lib.hid hmay
 have Hhas := Lib.hid hhas
 clear hr hmay hhas
 go_enter Tryz.func109, Tryz.ntmps109
 go_wp2_with fail
 refine Hmay.out.mono ?_
 rintro e w1 ⟨rfl, rfl⟩
 cases q
 ·go_wp2_with fail
  go_ret
  exact ⟨rfl, rfl⟩
 ·go_wp2_with fail
  refine Hhas.out.mono ?_
  rintro e w1 ⟨rfl, rfl⟩
  go_wp2_with fail
  go_ret
  exact ⟨rfl, rfl⟩
end Go.Proofs.YtmhaahcbmdhinaaGreatDoor
namespace Go.Proofs
open Go.Shelf
set_option maxRecDepth 100000
def Tryz.lays189_ren : Go.Shelf.Ren := ⟨fun | 189 => 177 | 125 => 213 | 257 => 212 | 128 => 233 | 129 => 234 | 294 => 225 | 295 => 226 | 296 => 227 | 297 => 228 | 298 => 229 | 299 => 230 | 216 => 184 | 300 => 231 | 301 => 232 | 328 => 244 | 329 => 245 | 330 => 246 | 331 => 247 | 332 => 248 | 215 => 218 | 343 => 256 | n => n, fun | 28 => 25 | 3 => 3 | 46 => 82 | 0 => 0 | 51 => 327 | 53 => 214 | 4 => 4 | 183 => 321 | 182 => 320 | 131 => 206 | 5 => 5 | 9 => 9 | 218 => 337 | 222 => 341 | 228 => 350 | 229 => 74 | n => n, fun | n => n⟩
theorem Tryz.lays189 : Go.Proofs.Lays.n189 Tryz.prog Tryz.lays189_ren := {
 mixed := by kernel_rfl
 f125 := Tryz.func213.trans (congrArg some (by kernel_rfl))
 f128 := Tryz.func233.trans (congrArg some (by kernel_rfl))
 f129 := Tryz.func234.trans (congrArg some (by kernel_rfl))
 f189 := Tryz.func177.trans (congrArg some (by kernel_rfl))
 f215 := Tryz.func218.trans (congrArg some (by kernel_rfl))
 f216 := Tryz.func184.trans (congrArg some (by kernel_rfl))
 f257 := Tryz.func212.trans (congrArg some (by kernel_rfl))
 f294 := Tryz.func225.trans (congrArg some (by kernel_rfl))
 f295 := Tryz.func226.trans (congrArg some (by kernel_rfl))
 f296 := Tryz.func227.trans (congrArg some (by kernel_rfl))
 f297 := Tryz.func228.trans (congrArg some (by kernel_rfl))
 f298 := Tryz.func229.trans (congrArg some (by kernel_rfl))
 f299 := Tryz.func230.trans (congrArg some (by kernel_rfl))
 f300 := Tryz.func231.trans (congrArg some (by kernel_rfl))
 f301 := Tryz.func232.trans (congrArg some (by kernel_rfl))
 f328 := Tryz.func244.trans (congrArg some (by kernel_rfl))
 f329 := Tryz.func245.trans (congrArg some (by kernel_rfl))
 f330 := Tryz.func246.trans (congrArg some (by kernel_rfl))
 f331 := Tryz.func247.trans (congrArg some (by kernel_rfl))
 f332 := Tryz.func248.trans (congrArg some (by kernel_rfl))
 f343 := Tryz.func256.trans (congrArg some (by kernel_rfl))
 t0 := Tryz.underlying0
 a0 := Tryz.isAgg0
 z0 := Tryz.sizeOf0
 v0 := Tryz.zeroValue0
 t3 := Tryz.underlying3
 a3 := Tryz.isAgg3
 z3 := Tryz.sizeOf3
 v3 := Tryz.zeroValue3
 t4 := Tryz.underlying4
 a4 := Tryz.isAgg4
 z4 := Tryz.sizeOf4
 v4 := Tryz.zeroValue4
 t5 := Tryz.underlying5
 a5 := Tryz.isAgg5
 z5 := Tryz.sizeOf5
 v5 := Tryz.zeroValue5
 t9 := Tryz.underlying9
 a9 := Tryz.isAgg9
 z9 := Tryz.sizeOf9
 v9 := Tryz.zeroValue9
 t28 := Tryz.underlying25
 a28 := Tryz.isAgg25
 z28 := Tryz.sizeOf25
 v28 := Tryz.zeroValue25
 t46 := Tryz.underlying82
 a46 := Tryz.isAgg82
 z46 := Tryz.sizeOf82
 v46 := Tryz.zeroValue82
 t51 := Tryz.underlying327
 a51 := Tryz.isAgg327
 z51 := Tryz.sizeOf327
 v51 := Tryz.zeroValue327
 t53 := Tryz.underlying214
 a53 := Tryz.isAgg214
 z53 := Tryz.sizeOf214
 v53 := Tryz.zeroValue214
 t131 := Tryz.underlying206
 a131 := Tryz.isAgg206
 z131 := Tryz.sizeOf206
 v131 := Tryz.zeroValue206
 t182 := Tryz.underlying320
 a182 := Tryz.isAgg320
 z182 := Tryz.sizeOf320
 v182 := Tryz.zeroValue320
 t183 := Tryz.underlying321
 a183 := Tryz.isAgg321
 z183 := Tryz.sizeOf321
 v183 := Tryz.zeroValue321
 t218 := Tryz.underlying337
 a218 := Tryz.isAgg337
 z218 := Tryz.sizeOf337
 v218 := Tryz.zeroValue337
 t222 := Tryz.underlying341
 a222 := Tryz.isAgg341
 z222 := Tryz.sizeOf341
 v222 := Tryz.zeroValue341
 t228 := Tryz.underlying350
 a228 := Tryz.isAgg350
 z228 := Tryz.sizeOf350
 v228 := Tryz.zeroValue350
 t229 := Tryz.underlying74
 a229 := Tryz.isAgg74
 z229 := Tryz.sizeOf74
 v229 := Tryz.zeroValue74 }
open Go.Sort Go.RowKit in
theorem Tryz.slices_Sort_int (blk off cap : Nat) (zs : List Int) (w : World) (hH : Holds (Value.int .i64) w blk off zs.toArray) (hblk : blk < w.heap.size) (hsz : zs.length < 4611686018427387904) :
  Calls Tryz.prog 177 #[.slice (some ⟨blk, off, none⟩) zs.length cap] w fun e w' =>
   e = .returned (.tuple #[]) ∧ ∃ n os, w' = grow (putRow (Value.int .i64) (Sort.ahead w n) blk off (zs.mergeSort fun x y => decide (x ≤ y)).toArray) os := Any.slices_Sort_int Tryz.lays189 blk off cap zs w hH hblk hsz
open Go.RowKit Go.Sort in
/-- .. and plain. (LAID: no walk: one application.) -/
theorem Tryz.slices_Sort_int_none (p : Option Addr) (cap : Nat) (w : World) :
  Calls Tryz.prog 177 #[.slice p 0 cap] w fun e w' => e = .returned (.tuple #[]) ∧ w' = w := Any.slices_Sort_int_none Tryz.lays189 p cap w
end Go.Proofs
namespace Go.Proofs.YtmhaahcbmdhinaaGreatDoor
open Go.RowKit Go.Sort
set_option maxRecDepth 100000
set_option linter.unusedVariables false
set_option linter.unusedSimpArgs false
def SortPost (W : World) (B : Nat) (A : Option Addr) (n c : Nat) (zs : List Int) (e : Ending) (w' : World) : Prop :=
 e = .returned (.tuple #[]) ∧ w'.ownsRow B 3 1 (.slice A n c) n (ii zs) ∧ W.grownBy w' (A.map (·.block))
theorem sort_any (B : Nat) (A : Option Addr) (n c : Nat) (zs : List Int) (w : World) (h : w.ownsRow B 3 1 (.slice A n c) n (ii zs)) (hn : n ≤ 1000000) :
  Calls Tryz.prog 177 #[.slice A n c] w (SortPost w B A n c (zs.mergeSort fun x y => decide (x ≤ y))) := by
 have hl : zs.length = n := by have := h.1; simpa [ii] using this
 rcases Nat.eq_zero_or_pos n with h0 | h0
 ·subst h0
  have hz : zs = [] := List.eq_nil_of_length_eq_zero hl
  subst hz
  refine (Tryz.slices_Sort_int_none A c w).mono ?_
  rintro e w' ⟨rfl, rfl⟩
  exact ⟨rfl, by simpa using h, World.grownBy.refl _ _⟩
 ·rcases h.2 with ⟨h1, h2⟩ | ⟨g, cap, cur, hv, hbase, hb, h1, h2, h3, h4⟩
  ·omega
  ·injection hv with hv1 _ hv3
   subst hv1 hv3
   subst hl
   have hH : Holds (Value.int .i64) w g 0 zs.toArray := holds_of_blockI hb (by simpa [ii] using h4)
   refine (Tryz.slices_Sort_int g 0 c zs w hH (Array.getElem?_eq_some_iff.1 hb).1 (by omega)).mono ?_
   rintro e w' ⟨rfl, nn, os, rfl⟩
   exact ⟨rfl, ownsRow_sortedI (by simp) hbase hb h1 h2 h3, grownBy_sortedI _⟩
end Go.Proofs.YtmhaahcbmdhinaaGreatDoor
namespace Go.Proofs.YtmhaahcbmdhinaaGreatDoor
open Go.RowKit
set_option maxRecDepth 100000
set_option linter.unusedVariables false
set_option linter.unusedSimpArgs false
def mkc (x : Mk) : List Value := [.int .i64 x.m, .int .i64 x.n]
theorem mkc_len (x : Mk) : (mkc x).length = 2 := rfl
theorem mk_cells {w : World} {ok : Nat → Prop} {n : Nat} {A : Option Addr} {l : List Mk} (h : Rd w ok 2 A n (flat mkc l)) {j : Nat} (hj : j < n) : ∃ b o x, A = some ⟨b, o, none⟩ ∧ ok b ∧ b < w.heap.size ∧ l[j]? = some x ∧
  w.cell? ⟨b, o + j * 2, none⟩ = some (.int .i64 x.m) ∧ w.cell? ⟨b, o + j * 2 + 1, none⟩ = some (.int .i64 x.n) := by
 obtain ⟨b, o, x, hA, hb, hlt, hx, hc⟩ := h.fat mkc_len (by omega) hj
 exact ⟨b, o, x, hA, hb, hlt, hx, hc 0 _ rfl, hc 1 _ rfl⟩
theorem mark_elem : Elem Tryz.prog 190 (.agg #[.int .i64 0, .int .i64 0]) 2 16 := by unfold Elem; kernel_rfl
theorem Rd.blit {w : World} {cs : Array Value} {t : TypeId} {fr : Nat × Nat} {k : Nat} (hk : cs.size = k) : Rd (w.alloc (.cells cs t fr)) (w.heap.size ≤ ·) k (some ⟨w.heap.size, 0, none⟩) 1 cs.toList := by
 refine ⟨by simpa using hk, fun _ => ⟨_, rfl, Nat.le_refl _, fun j u hu => ?_⟩⟩
 exact World.news_of_block (heap_alloc_new w _) j u hu
theorem reach_at {l : List Mk} {i : Nat} {x : Mk} (h : l[i]? = some x) (who : Int) : reach (l.take (i + 1)) who = if x.m = who then max (reach (l.take i) who) x.n else reach (l.take i) who := by
 unfold reach
 rw [List.take_add_one, h]
 simp only [Option.toList_some, List.foldl_append, List.foldl_cons, List.foldl_nil]
theorem reaches_at {l : List Mk} {c : List Int} {j : Nat} {who : Int} (h : c[j]? = some who) : ii (reaches l (c.take (j + 1))) = ii (reaches l (c.take j)) ++ [.int .i64 (reach l who)] := by
 unfold reaches ii
 rw [List.take_add_one, h]
 simp
set_option maxHeartbeats 3200000 in
theorem agreed_any (A : Option Addr) (n c : Nat) (l : List Int) (B : Option Addr) (m d : Nat) (ms : List Mk) (w : World) {ok ok' : Nat → Prop} (hr : Rd w ok 1 A n (ii l)) (hn : n ≤ 1000000) (hs : Rd w ok' 2 B m (flat mkc ms)) (hm : m ≤ 1000000) :
  Calls Tryz.prog 118 #[.slice A n c, .slice B m d] w (IntPost w (agreed l ms)) := by
 have Hl := Lib.hid (ii_len hr)
 have Hls := Lib.hid (hs.flen mkc_len (by omega))
 have hmay := cmay_any A n c l w hr hn
 have Hmay := Lib.hid hmay
 have Hr := Lib.hid hr
 have Hs := Lib.hid hs
 clear hmay hr hs
 obtain ⟨V, hV⟩ : ∃ V, V = agreed l ms := ⟨_, rfl⟩
 rw [← hV]
 have HV := Lib.hid hV
 clear hV
 go_enter Tryz.func118, Tryz.ntmps118
 go_wp2_with fail
 refine Hmay.out.mono ?_
 rintro e w' ⟨rfl, rfl⟩
 rcases hc1 : cmay l with _ | _
 ·have hv : V = 0 := by rw [HV.out]; unfold agreed; rw [hc1]; rfl
  have Hv := Lib.hid hv
  clear hv hc1
  go_wp2_with fail
  go_ret
  exact ⟨ret_int Hv.out.symm, Below.refl _ _⟩
 ·have hcm := cmay_iff.1 hc1
  have hn7 : n ≤ 7 := by have := Hl.out; omega
  have hn1 : 1 ≤ n := by have := Hl.out; omega
  have hv : V = (srt (reaches ms l)).getD ((n - 1) / 2) 0 := by rw [HV.out]; unfold agreed; rw [hc1, if_pos rfl, Hl.out]
  have Hv := Lib.hid hv
  clear hv hc1 hcm
  go_wp2_with fail
  go_loopg [5, 7, 8, 10, 16] n (fun r s5 s7 s8 s10 s16 wr => ∃ (j : Nat) (A' : Option Addr) (c' : Nat), r = n - j ∧ j ≤ n ∧ s16 = .int .i64 j ∧ s5 = .slice A' j c' ∧ wr.ownsRow w.heap.size 3 1 (.slice A' j c') j (ii (reaches ms (l.take j))) ∧ Below w.heap.size w wr)
  case atStart => exact ⟨0, none, 0, by omega, by omega, rfl, rfl, World.ownsRow_nil _ _ _ _, Below.refl _ _⟩
  case round =>
   obtain ⟨j, A', c', hrm, hj, rfl, rfl, hown, hb⟩ := hrel
   have Hrm := Lib.hid hrm
   clear hrm
   by_cases hlt : j < n
   ·obtain ⟨b, o, x, rfl, _, _, hx, hc⟩ := ii_cell (Hr.out.below hb) hlt
    have hft := reaches_at (l := ms) hx
    have Hft := Lib.hid hft
    have hltI : (j : Int) < n := by omega
    have Hown := Lib.hid hown
    have Hb := Lib.hid hb
    clear hx hft hown hb
    go_wp2_with fail
    go_loopg [8, 10, 22] m (fun r s8 s10 s22 wr2 => ∃ i : Nat, r = m - i ∧ i ≤ m ∧ s22 = .int .i64 i ∧ s8 = .int .i64 (reach (ms.take i) x) ∧ Below wr.heap.size wr wr2)
    case atStart => exact ⟨0, by omega, by omega, rfl, rfl, Below.refl _ _⟩
    case round =>
     obtain ⟨i, hrm, hi, rfl, rfl, hb2⟩ := hrel
     have Hrm2 := Lib.hid hrm
     clear hrm
     by_cases hlt2 : i < m
     ·obtain ⟨b2, o2, y, rfl, _, _, hy, hc0, hc2⟩ := mk_cells ((Hs.out.below Hb.out).below hb2) hlt2
      have hra := reach_at hy x
      have hlt2I : (i : Int) < m := by omega
      clear hy
      generalize reach (ms.take i) x = ra at hra
      by_cases hyx : y.m = x
      ·have e1 : (y.m == x) = true := by simpa using hyx
       rw [if_pos hyx] at hra
       have Hra := Lib.hid hra
       clear hra
       by_cases hle : ra ≤ y.n
       ·have hmx : max ra y.n = y.n := by omega
        go_wp2_with fail
        all_goals
         go_roundg (m - (i + 1))
         case measure => have := Hrm2.out; omega
         case rel => exact ⟨i + 1, rfl, by omega, by go_num, by rw [Hra.out]; first | rfl | (congr 1; omega), hb2.alloc hb2.size _⟩
       ·have hmx : max ra y.n = ra := by omega
        go_wp2_with fail
        all_goals
         go_roundg (m - (i + 1))
         case measure => have := Hrm2.out; omega
         case rel => exact ⟨i + 1, rfl, by omega, by go_num, by rw [Hra.out]; first | rfl | (congr 1; omega), hb2.alloc hb2.size _⟩
      ·have e1 : (y.m == x) = false := by simpa using hyx
       rw [if_neg hyx] at hra
       have Hra := Lib.hid hra
       clear hra
       go_wp2_with fail
       go_roundg (m - (i + 1))
       case measure => have := Hrm2.out; omega
       case rel => exact ⟨i + 1, rfl, by omega, by go_num, by rw [Hra.out], hb2.alloc hb2.size _⟩
     ·obtain rfl : i = m := by omega
      rw [List.take_of_length_le (Nat.le_of_eq Hls.out)]
      have hz1 := Hb.out.size
      have hz2 := hb2.size
      have hown2 := own_below Hown.out hb2
      generalize reach ms x = rx at Hft
      go_wp2_with (at_builtin; refine wpList_append_any (news := [.int .i64 rx]) _ Tryz.underlying25 int_elem rfl (by omega) rfl rfl rfl (hown2.alloc _) rfl (Rd.blit rfl).any (by intro u hu; simp only [List.mem_cons, List.not_mem_nil, or_false] at hu; rcases hu with rfl; rfl) (by omega) (by simp; omega) rfl rfl ?_; intro A1 c1 w1 hown1 hg1 hat1)
      go_roundg (n - (j + 1))
      case measure => have := Hrm.out; omega
      case rel => exact ⟨j + 1, A1, c1, rfl, by omega, by go_num, rfl, by rw [Hft.out]; exact hown1, ((Hb.out.trans (hb2.mono hz1)).alloc (by omega) _).grown hg1 (by simp; omega) (fun k hk => (own_lt Hown.out k hk).1)⟩
   ·obtain rfl : j = n := by omega
    rw [List.take_of_length_le (Nat.le_of_eq Hl.out)] at hown
    have hsrt := sort_any w.heap.size A' j c' (reaches ms l) wr hown (by omega)
    have Hsrt := Lib.hid hsrt
    have Hown := Lib.hid hown
    clear hsrt hown
    go_wp2_with fail
    refine Hsrt.out.mono ?_
    rintro e w5 ⟨rfl, hown5, hg5⟩
    have hb5 := hb.grown hg5 hb.size (fun k hk => (own_lt Hown.out k hk).1)
    obtain ⟨b, o, z, rfl, _, _, hz, hcz⟩ := ii_cell (Rd.of_own hown5) (show (j - 1) / 2 < j by omega)
    have hvz : V = z := by
     rw [Hv.out, List.getD_eq_getElem?_getD]
     change (srt (reaches ms l))[(j - 1) / 2]? = some z at hz
     rw [hz]
     rfl
    have Hvz := Lib.hid hvz
    have Hb5 := Lib.hid hb5
    clear hz hvz hb5 hown5
    have h7 : j = 1 ∨ j = 2 ∨ j = 3 ∨ j = 4 ∨ j = 5 ∨ j = 6 ∨ j = 7 := by omega
    rcases h7 with rfl | rfl | rfl | rfl | rfl | rfl | rfl
    all_goals
     simp only [Nat.reduceSub, Nat.reduceDiv, Nat.add_zero] at hcz
     go_wp2_with fail
     go_ret
     exact ⟨ret_int Hvz.out.symm, Hb5.out⟩
theorem own_lit1 {W : World} {e : TypeId} {cs : Array Value} {k : Nat} (hk : cs.size = k) : (W.alloc (.cells cs e)).ownsRow W.heap.size e k (.slice (some ⟨W.heap.size, 0, none⟩) 1 1) 1 cs.toList :=
 ⟨by simpa using hk, .inr ⟨W.heap.size, 1, cs, rfl, Nat.le_refl _, heap_alloc_new W _, Nat.le_refl _, by simp [maxLen], by omega, by rw [Nat.one_mul, ← hk, ← Array.length_toList, List.take_length]⟩⟩
theorem Rd.blitg {w : World} {cs : Array Value} {t : TypeId} {fr : Nat × Nat} {k g : Nat} (hk : cs.size = k) (hg : g = w.heap.size) : Rd (w.alloc (.cells cs t fr)) T k (some ⟨g, 0, none⟩) 1 cs.toList := by
 subst hg
 exact (Rd.blit1 hk).any
theorem reach_snoc (l : List Mk) (x : Mk) (who : Int) : Go.Proofs.YtmhaahcbmdhinaaGreatDoor.reach (l ++ [x]) who = if x.m = who then max (Go.Proofs.YtmhaahcbmdhinaaGreatDoor.reach l who) x.n else Go.Proofs.YtmhaahcbmdhinaaGreatDoor.reach l who := by
 simp [Go.Proofs.YtmhaahcbmdhinaaGreatDoor.reach, List.foldl_append]
theorem agreed_agr {l : List Int} {ms : List Mk} {f : Int → Int} (h : ∀ who, Go.Proofs.YtmhaahcbmdhinaaGreatDoor.reach ms who = f who) : agreed l ms = agr l f := by
 have e : Go.Proofs.YtmhaahcbmdhinaaGreatDoor.reach ms = f := funext h
 unfold agreed agr srt reaches
 rw [e]
theorem sameKey_i (a b : Int) : (Lit.int .i64 a).sameKey (.int .i64 b) = decide (a = b) := by simp [Lit.sameKey]
def MkInv (C : Cr) (ms : List Mk) (left : Lit → Bool) : Prop := ∀ who, Go.Proofs.YtmhaahcbmdhinaaGreatDoor.reach ms who = max (if who = C.id then max 0 C.last else 0) (if left (.int .i64 who) = true then 0 else max 0 ((C.peers who).elim 0 Pe.mt))
theorem MkInv.start {C : Cr} {D : DataW Unit} (hd : PmD D C.peers) : MkInv C [⟨C.id, C.last⟩] (Maps.has D) := fun who => by
 rw [hd.has_]
 have e1 : Go.Proofs.YtmhaahcbmdhinaaGreatDoor.reach [⟨C.id, C.last⟩] who = if C.id = who then max 0 C.last else 0 := rfl
 rw [e1]
 have e2 : (if (C.peers who).isSome = true then (0 : Int) else max 0 ((C.peers who).elim 0 Pe.mt)) = 0 := by
  cases C.peers who <;> simp
 rw [e2]
 by_cases e : who = C.id
 ·rw [if_pos e.symm, if_pos e]; omega
 ·rw [if_neg (fun h => e h.symm), if_neg e]; omega
theorem MkInv.step {C : Cr} {ms : List Mk} {left : Lit → Bool} {x : Int} {c : Pe} (h : MkInv C ms left) (hl : left (.int .i64 x) = true) (hp : C.peers x = some c) : MkInv C (ms ++ [⟨x, c.mt⟩]) (fun z => left z && !z.sameKey (.int .i64 x)) := fun who => by
 have := h who
 rw [reach_snoc]
 show _ = max _ (if (left (.int .i64 who) && !(Lit.int .i64 who).sameKey (.int .i64 x)) = true then 0 else max 0 ((C.peers who).elim 0 Pe.mt))
 rw [sameKey_i]
 by_cases e : x = who
 ·subst e
  rw [hl, if_pos rfl] at this
  simp only [if_true, this, hp, Option.elim_some, decide_true, Bool.not_true, Bool.and_false, Bool.false_eq_true, if_false]
  omega
 ·have e1 : decide (who = x) = false := decide_eq_false fun h => e h.symm
  rw [if_neg e, this, e1]
  simp
theorem MkInv.done {C : Cr} {ms : List Mk} {left : Lit → Bool} (h : MkInv C ms left) (hl : ∀ kl, left kl = false) (who : Int) : Go.Proofs.YtmhaahcbmdhinaaGreatDoor.reach ms who = C.reach who := by
 rw [h who, hl]
 rfl
theorem PmD.here {D : DataW Unit} {f : Int → Option Pe} (hd : PmD D f) {x : Int} {c : Pe} (h : ∀ zd, D.atKey (.int .i64 x) zd = peD c) : f x = some c := by
 have k1 := h (.lit (.int .i64 0))
 rw [hd.at_] at k1
 cases hf : f x with
 | none => rw [hf] at k1; cases k1
 | some q => rw [hf] at k1; rw [peD_inj k1]
theorem CX.withCommit {fb p : Nat} {w : World} {V U : Nat → Prop} {C : Cr} {m : Mb} (h : CX fb w p V U C m) (n : Int) : CTo fb w p V U { C with commit := n } (w.setCell ⟨p, 9, none⟩ (.int .i64 n)) V U m := by
 have hg : w.grownBy (w.setCell ⟨p, 9, none⟩ (.int .i64 n)) (some p) := gb_set _ p 9 _
 exact ⟨h.to (h.bx.set 9 _) hg rfl rfl rfl rfl, fun _ h => .inl h, fun _ h => h, fun _ h => .inl h, (Kept.refl V w).grown hg fun b e => by injection e with e; exact e ▸ h.vp⟩
theorem outNil {fb p : Nat} {W w' : World} {V U V' U' : Nat → Prop} {C : Cr} {m' : Mb} (h : CTo fb W p V U C w' V' U' m') : OutPost fb W p V U (C, []) (.returned (.slice none 0 0)) w' :=
 ⟨none, 0, 0, [], V', U', m', rfl, Rm.nil _ _, rfl, (fun x hx => by cases hx), h⟩
theorem OutPost.up {fb p : Nat} {w W w' : World} {V U V' U' : Nat → Prop} {C : Cr} {m' : Mb} {r : Cr × List Ms} {e : Ending} (h : CTo fb w p V U C W V' U' m') (h2 : OutPost fb W p V' U' r e w') : OutPost fb w p V U r e w' := by
 obtain ⟨A, n, c, X, V2, U2, m2, h1, h3, h4, h6, h5⟩ := h2
 exact ⟨A, n, c, X, V2, U2, m2, h1, h3.mono h.kept.size, h4, h6, h.trans h5⟩
set_option maxHeartbeats 12800000 in
theorem advance_any {fb p : Nat} {w : World} {V U : Nat → Prop} {C : Cr} {m : Mb} {k : Nat} (h : CX fb w p V U C m) (ho : C.Ok k) (he : Env fb w) :
  Calls Tryz.prog 56 #[.pointer (some ⟨p, 0, none⟩)] w (OutPost fb w p V U C.advance) := by
 have hf := h.fit ho
 have hlast := clast_any h.drew hf ho.may
 have F : ∀ W, Below w.heap.size w W → W.cell? ⟨p, 11, none⟩ = some (.int .i64 C.id) ∧ W.cell? ⟨p, 16, none⟩ = some (.map (some m.q)) := fun W hb => ⟨(h.below hb).bx.c 11, (h.below hb).bx.c 16⟩
 have FF := Lib.hid F
 have Hlast := Lib.hid hlast
 have H := Lib.hid (And.intro h (And.intro ho (And.intro he hf)))
 clear h ho he hf hlast F
 go_enter Tryz.func56, Tryz.ntmps56
 go_upto_region 1 with (fail)
 refine wp_region_S 8 (fun W => Below w.heap.size w W) (.take 0 (.take 1 (.take 2 (.take 3 (.take 4 (.one 5 (.take 6 (.one 7 (.one 8 (.nil)))))))))) (by kernel_rfl) (Below.refl _ _).drew (fun _ _ _ _ h => h) (fun hS => ?_)
 repeat (first
  | (refine wpS_take (v := ?_) rfl rfl (by rfl) ?_ ?_; rotate_left; (intro W hW; have hf := FF.out W hW; go_split_ands; go_simp; try with_reducible rfl); try simp only [Act.put, lyA, lyB, lyC])
  | (refine wpS_skip rfl rfl (by rfl) ?_; try simp only [Act.put, lyA, lyB, lyC]))
 refine wpS_one rfl (by rfl) (fun K hK => ?_)
 go_simp
 go_at_call 55
 refine (Hlast.out).mono ?_
 rintro e w1 ⟨rfl, hb1⟩
 have hb1' : Below w.heap.size w w1 := (Below.refl _ _).drew.trans hb1
 clear hb1
 refine hK (fun W => Below w.heap.size w W) _ _ (fun _ h => h) hb1' ?_
 clear hK K
 try simp only [Act.put, lyA, lyB, lyC]
 repeat (first
  | (refine wpS_take (v := ?_) rfl rfl (by rfl) ?_ ?_; rotate_left; (intro W hW; have hf := FF.out W hW; go_split_ands; go_simp; try with_reducible rfl); try simp only [Act.put, lyA, lyB, lyC])
  | (refine wpS_skip rfl rfl (by rfl) ?_; try simp only [Act.put, lyA, lyB, lyC]))
 refine wpS_one rfl (by rfl) (fun K hK => ?_)
 go_simp
 refine hK (fun W => Below w.heap.size w W) _ _ (fun _ h => h) (hb1'.alloc hb1'.size _) ?_
 clear hK K
 try simp only [Act.put, lyA, lyB, lyC]
 refine wpS_last rfl (by rfl) (fun K hK => ?_)
 go_simp
 refine hK _ _ ?_
 clear hK K
 try simp only [Act.put, lyA, lyB, lyC]
 refine wpS_nil ?_
 clear hS
 obtain ⟨W1, hW1⟩ : ∃ W1, W1 = w1.alloc (.cells #[.int .i64 C.id, .int .i64 C.last] 190) := ⟨_, rfl⟩
 have o1 : W1.ownsRow w1.heap.size 190 2 (.slice (some ⟨w1.heap.size, 0, none⟩) 1 1) 1 (flat mkc [⟨C.id, C.last⟩]) := by subst hW1; exact own_lit1 rfl
 have hbW : Below w1.heap.size w1 W1 := by subst hW1; exact (Below.refl _ _).alloc (Nat.le_refl _) _
 have hz1 : W1.heap.size = w1.heap.size + 1 := by subst hW1; simp
 have hbw : Below w.heap.size w W1 := hb1'.trans (hbW.mono hb1'.size)
 rw [← hW1]
 obtain ⟨D, hown, hd⟩ := (H.out.1.below hbw).pm
 have hsz := hd.size (hown.entries int_key)
 have hown' := (owns_tight hown).mono hsz
 have c16 := (FF.out W1 hbw).2
 have O1 := Lib.hid (And.intro o1 (And.intro hbW (And.intro hz1 (And.intro hb1' (And.intro hbw (And.intro hd hsz))))))
 clear hW1 o1 hbW hz1 hb1' hbw hd hsz hown
 go_wp2_with (at_range; refine wpList_range_own _ rfl _ _ rfl _ _ int_key Tryz.underlying106 peR m.q 64 D rfl hown' ?_; intro w2 hrg0 hg0 hs0)
 go_frame
 clear hown' c16
 have hb2 : Below w1.heap.size w1 w2 := (O1.out.2.1).grown hg0 (by have := O1.out.2.2.1; omega) (by intro b e; cases e)
 have o2 : w2.ownsRow w1.heap.size 190 2 (.slice (some ⟨w1.heap.size, 0, none⟩) 1 1) 1 (flat mkc [⟨C.id, C.last⟩]) := own_below O1.out.1 ((Below.refl _ _).grown hg0 (Nat.le_refl _) (by intro b e; cases e))
 have R0 := Lib.hid (And.intro hrg0 (And.intro hb2 (And.intro o2 hs0)))
 clear hrg0 hb2 o2 hs0 hg0
 go_loopg [3, 4, 5] (Maps.size D) (fun gm s3 s4 s5 wr => ∃ (left : Lit → Bool) (ms : List Mk) (A : Option Addr) (j c : Nat), s3 = .slice A j c ∧ wr.ranges Tryz.prog 3 peR m.q W1.heap.size 64 D left gm ∧ wr.ownsRow w1.heap.size 190 2 (.slice A j c) j (flat mkc ms) ∧ MkInv C ms left ∧ Below w1.heap.size w1 wr ∧ A.map (·.block) ≠ some W1.heap.size ∧ j + gm ≤ 65 ∧ W1.heap.size + 1 ≤ wr.heap.size)
 case atStart =>
  refine ⟨Maps.has D, [⟨C.id, C.last⟩], _, 1, 1, rfl, R0.out.1, R0.out.2.2.1, MkInv.start O1.out.2.2.2.2.2.1, R0.out.2.1, ?_, ?_, ?_⟩
  ·intro e; injection e with e; have := O1.out.2.2.1; have e2 : w1.heap.size = W1.heap.size := e; omega
  ·have := O1.out.2.2.2.2.2.2; omega
  ·have := R0.out.2.2.2; omega
 case round =>
  obtain ⟨left, ms, A, j, c, rfl, hrg, hR⟩ := hrel
  have R := Lib.hid hR
  clear hR R0
  go_wp2_with (at_next; refine wpList_next_ranges _ rfl _ rfl _ int_key peR (Value.int .i64) peV (fun key kl hk => by obtain ⟨x, rfl, _⟩ := Maps.keyOf_int_inv Tryz.underlying3 hk; exact ⟨x, rfl⟩) (fun v y hv => by obtain ⟨q, rfl, _⟩ := peR_inv hv; exact ⟨q, rfl⟩) m.q W1.heap.size 64 D left _ rfl hrg ?_ ?_)
  ·intro hc0 hl0
   have hbwr : Below w.heap.size w wr := O1.out.2.2.2.1.trans (R.out.2.2.1.mono O1.out.2.2.2.1.size)
   have hdone := R.out.2.1.done hl0
   have hmk := Rd.of_own R.out.1
   have hj : j ≤ 65 := by have := R.out.2.2.2.2.1; omega
   have hmb := members_any (H.out.1.below hbwr) H.out.2.2.2 H.out.2.1.may (H.out.2.2.1.new hbwr).ev
   have hlen := (cmay_iff.1 (members_may H.out.2.1.may)).2.2.2
   have hag : agreed C.members ms = agr C.members C.reach := agreed_agr hdone
   obtain ⟨n, hn⟩ : ∃ n, agr C.members C.reach = n := ⟨_, rfl⟩
   rw [hn] at hag
   have hadv : C.advance = if n ≤ C.commit ∨ C.termOf n ≠ (0, C.s.tm) then (C, []) else if hasC C.members C.id = false ∧ (memE C.s.l C.last).all (fun e => decide (e.a ≤ n)) = true then (({ C with commit := n } : Cr).follow 0, []) else Cr.sendAll { C with commit := n } := by
    rw [← hn]; rfl
   have hnr : 0 ≤ n ∧ n ≤ 1099511627776 := by rw [← hn]; exact H.out.2.1.agr _
   have Hmb := Lib.hid hmb
   have A1 := Lib.hid (And.intro hbwr (And.intro hmk (And.intro hj (And.intro hlen (And.intro hag (And.intro hadv hnr))))))
   clear hrg hl0 hbwr hdone hmk hj hmb hlen hag hadv hnr hn R
   go_wp2_with fail
   refine Hmb.out.mono ?_
   intro e w3 h3
   obtain ⟨A3, n3, c3, rfl, o3, hb3⟩ := h3
   have hl3 : n3 ≤ 7 := by have := ii_len (Rd.of_own o3); have := A1.out.2.2.2.1; omega
   have hagr := agreed_any A3 n3 c3 C.members A j c ms w3 (Rd.of_own o3) (by omega) (A1.out.2.1.below hb3) (by have := A1.out.2.2.1; omega)
   rw [A1.out.2.2.2.2.1] at hagr
   have Hagr := Lib.hid hagr
   have O3 := Lib.hid (And.intro o3 (And.intro hb3 hl3))
   clear hagr o3 hb3 hl3
   go_wp2_with fail
   refine Hagr.out.mono ?_
   rintro e w4 ⟨rfl, hb4⟩
   have hb4w : Below w.heap.size w w4 := (A1.out.1.trans (O3.out.2.1.mono A1.out.1.size)).trans (hb4.mono (Nat.le_trans A1.out.1.size O3.out.2.1.size))
   have htm := H.out.1.term H.out.2.2.2 n w4 hb4w
   have hcx4 := H.out.1.below hb4w
   have c2 : w4.cell? ⟨p, 2, none⟩ = some (.int .i64 m.s.b) := hcx4.bx.c 2
   have c3' : w4.cell? ⟨p, 3, none⟩ = some (.int .i64 m.s.t) := hcx4.bx.c 3
   have c4 : w4.cell? ⟨p, 4, none⟩ = some (.slice m.s.A m.s.n m.s.c) := hcx4.bx.c 4
   have hadv := A1.out.2.2.2.2.2.1
   obtain ⟨r, hr⟩ : ∃ r, C.termOf n = r := ⟨_, rfl⟩
   rw [hr] at htm hadv
   have Htm := Lib.hid htm
   have B4 := Lib.hid (And.intro hb4 (And.intro hb4w hadv))
   clear htm hcx4 hadv hb4 hb4w hr
   obtain ⟨r1, r2⟩ := r
   go_wp2_with fail
   refine Htm.out.mono ?_
   rintro e w5 ⟨rfl, hb5⟩
   have hb5w : Below w.heap.size w w5 := B4.out.2.1.trans (hb5.mono B4.out.2.1.size)
   have hcx5 := H.out.1.below hb5w
   clear c2 c3' c4
   have c9 : w5.cell? ⟨p, 9, none⟩ = some (.int .i64 C.commit) := hcx5.bx.c 9
   have c0 : w5.cell? ⟨p, 0, none⟩ = some (.int .i64 C.s.tm) := by rw [← H.out.1.s_eq.1]; exact hcx5.bx.c 0
   have f9 := hcx5.bx.f 9
   have o5 : Rd w5 (wr.heap.size ≤ ·) 1 A3 n3 (ii C.members) := ((Rd.of_own O3.out.1).below B4.out.1).below hb5
   have B5 := Lib.hid (And.intro hb5w (And.intro hcx5 o5))
   clear hb5 hb5w hcx5 o5
   have hto5 : CTo fb w p V U C w5 V U m := (CTo.refl H.out.1).below B5.out.1
   have T5 := Lib.hid hto5
   clear hto5
   by_cases hcm : n ≤ C.commit
   ·go_wp2_with fail
    go_ret
    rw [B4.out.2.2, if_pos (.inl hcm)]
    exact outNil T5.out
   ·have hcm' : decide (n ≤ C.commit) = false := decide_eq_false hcm
    by_cases h0 : r1 = 0
    ·subst h0
     by_cases e : r2 = C.s.tm
     ·have e1 : (r2 != C.s.tm) = false := by simp [e]
      have e2 : errC 0 = .nilIface := rfl
      go_upto_region 12 with (fail)
      obtain ⟨W6, hW6⟩ : ∃ W6, W6 = w5.setCell ⟨p, 9, none⟩ (.int .i64 n) := ⟨_, rfl⟩
      have hto6 : CTo fb w p V U { C with commit := n } W6 V U m := by subst hW6; exact T5.out.trans (B5.out.2.1.withCommit n)
      have hpl : ¬ wr.heap.size ≤ p := by have := H.out.1.bx.lt; have := A1.out.1.size; omega
      have r6 : Rd W6 (wr.heap.size ≤ ·) 1 A3 n3 (ii C.members) := by subst hW6; exact B5.out.2.2.setCell (p := ⟨p, 9, none⟩) hpl _
      rw [← hW6]
      have ho6 : ({ C with commit := n } : Cr).Ok k := H.out.2.1.withCommit A1.out.2.2.2.2.2.2
      have hl6 := clast_any hto6.cx (hto6.cx.fit ho6) ho6.may
      have hm6 := fun W (hb : Below W6.heap.size W6 W) => member_any p C.last m.s.A m.s.n m.s.c m.s.L W ((hto6.cx.below hb).bx.c 4) (hto6.cx.below hb).at_.l H.out.2.2.2.z.1
      have hadv : C.advance = if hasC C.members C.id = false ∧ (memE C.s.l C.last).all (fun e => decide (e.a ≤ n)) = true then (({ C with commit := n } : Cr).follow 0, []) else Cr.sendAll { C with commit := n } := by
       rw [B4.out.2.2, if_neg]
       rintro (h1 | h1)
       ·exact absurd h1 (by omega)
       ·exact h1 (by rw [e])
      have hen6 : Env fb W6 := H.out.2.2.1.kept hto6.kept H.out.1.vf
      have K6 := Lib.hid (And.intro hto6 (And.intro r6 (And.intro ho6 (And.intro hadv hen6))))
      have Hl6 := Lib.hid hl6
      have Hm6 := Lib.hid hm6
      clear hW6 hto6 hpl r6 ho6 hl6 hm6 hadv hen6 c9 c0 f9
      go_wp2_with fail
      refine Hl6.out.mono ?_
      rintro e w7 ⟨rfl, hb7⟩
      go_wp2_with fail
      refine (Hm6.out w7 hb7).mono ?_
      rintro e w8 ⟨hb8, hm8⟩
      have hb8' : Below W6.heap.size W6 w8 := hb7.trans (hb8.mono hb7.size)
      have hhas := hasM_any A3 n3 c3 C.members C.id w8.drew (K6.out.2.1.below hb8').drew (by have := O3.out.2.2; omega)
      have hq : memE C.s.l C.last = (m.s.L.reverse.find? (mch C.last)).map en := by
       obtain ⟨_, _, _, _, k5, _⟩ := H.out.1.s_eq
       rw [← k5, memE_er]
      obtain ⟨q, hqe⟩ : ∃ q, m.s.L.reverse.find? (mch C.last) = q := ⟨_, rfl⟩
      rw [hqe] at hm8 hq
      obtain ⟨hs, hse⟩ : ∃ b, hasC C.members C.id = b := ⟨_, rfl⟩
      have hse' : (cmay C.members && decide (C.id ∈ C.members)) = hs := hse
      rw [hse'] at hhas
      have hadv := K6.out.2.2.2.1
      rw [hse, hq] at hadv
      have F8 : ∀ W, Below w8.heap.size w8 W → W.cell? ⟨p, 11, none⟩ = some (.int .i64 C.id) ∧ W.cell? ⟨p, 9, none⟩ = some (.int .i64 n) := fun W hb => ⟨((K6.out.1.cx.below hb8').below hb).bx.c 11, ((K6.out.1.cx.below hb8').below hb).bx.c 9⟩
      have hto8 : CTo fb w p V U { C with commit := n } w8.drew V U m := K6.out.1.below hb8'.drew
      have hfo := follow_any 0 hto8.cx
      have hal := sendAll_any hto8.cx K6.out.2.2.1 (K6.out.2.2.2.2.new hb8'.drew)
      have HF8 := Lib.hid F8
      have Hhas := Lib.hid hhas
      have Hfo := Lib.hid hfo
      have Hal := Lib.hid hal
      have K8 := Lib.hid (And.intro hto8 hadv)
      clear hhas hq hqe hse hse' hadv F8 hto8 hfo hal hb7 hb8
      have hq1 : V m.q := H.out.1.vq
      cases q with
      | none =>
       obtain rfl := hm8
       cases hs
       ·go_upto_region 13 with (fail)
        refine wp_region_S 22 (fun W => Below w8.heap.size w8 W) (.take 0 (.take 1 (.take 2 (.take 3 (.take 4 (.one 5 (.take 6 (.take 7 (.take 8 (.take 9 (.take 10 (.take 11 (.take 12 (.take 13 (.take 14 (.take 15 (.take 16 (.take 17 (.take 18 (.take 19 (.take 20 (.take 21 (.one 22 (.nil)))))))))))))))))))))))) (by kernel_rfl) (Below.refl _ _).drew (fun _ _ _ _ h => h) (fun hS => ?_)
        repeat (first
         | (refine wpS_take (v := ?_) rfl rfl (by rfl) ?_ ?_; rotate_left; (intro W hW; have hf := HF8.out W hW; go_split_ands; go_simp; try with_reducible rfl); try simp only [Act.put, lyA, lyB, lyC])
         | (refine wpS_skip rfl rfl (by rfl) ?_; try simp only [Act.put, lyA, lyB, lyC]))
        refine wpS_one rfl (by rfl) (fun K hK => ?_)
        go_simp
        go_at_call 109
        refine (Hhas.out).mono ?_
        rintro e w9 ⟨rfl, rfl⟩
        refine hK (fun W => Below w8.heap.size w8 W) _ _ (fun _ h => h) hS ?_
        clear hK K
        try simp only [Act.put, lyA, lyB, lyC]
        repeat (first
         | (refine wpS_take (v := ?_) rfl rfl (by rfl) ?_ ?_; rotate_left; (intro W hW; have hf := HF8.out W hW; go_split_ands; go_simp; try with_reducible rfl); try simp only [Act.put, lyA, lyB, lyC])
         | (refine wpS_skip rfl rfl (by rfl) ?_; try simp only [Act.put, lyA, lyB, lyC]))
        refine wpS_last rfl (by rfl) (fun K hK => ?_)
        go_simp
        refine hK _ _ ?_
        clear hK K
        try simp only [Act.put, lyA, lyB, lyC]
        refine wpS_nil ?_
        go_wp2_with fail
        refine Hfo.out.mono ?_
        rintro e w9 ⟨rfl, hto9⟩
        have T9 := Lib.hid hto9
        clear hto9
        go_wp2_with fail
        go_ret
        rw [K8.out.2, if_pos ⟨by first | trivial | rfl, by first | trivial | rfl⟩]
        exact outNil (K8.out.1.trans T9.out)
       ·go_upto_region 13 with (fail)
        refine wp_region_S 22 (fun W => Below w8.heap.size w8 W) (.take 0 (.take 1 (.take 2 (.take 3 (.take 4 (.one 5 (.take 6 (.take 7 (.take 8 (.take 9 (.take 10 (.take 11 (.take 12 (.take 13 (.take 14 (.take 15 (.take 16 (.take 17 (.take 18 (.take 19 (.take 20 (.take 21 (.one 22 (.nil)))))))))))))))))))))))) (by kernel_rfl) (Below.refl _ _).drew (fun _ _ _ _ h => h) (fun hS => ?_)
        repeat (first
         | (refine wpS_take (v := ?_) rfl rfl (by rfl) ?_ ?_; rotate_left; (intro W hW; have hf := HF8.out W hW; go_split_ands; go_simp; try with_reducible rfl); try simp only [Act.put, lyA, lyB, lyC])
         | (refine wpS_skip rfl rfl (by rfl) ?_; try simp only [Act.put, lyA, lyB, lyC]))
        refine wpS_one rfl (by rfl) (fun K hK => ?_)
        go_simp
        go_at_call 109
        refine (Hhas.out).mono ?_
        rintro e w9 ⟨rfl, rfl⟩
        refine hK (fun W => Below w8.heap.size w8 W) _ _ (fun _ h => h) hS ?_
        clear hK K
        try simp only [Act.put, lyA, lyB, lyC]
        repeat (first
         | (refine wpS_take (v := ?_) rfl rfl (by rfl) ?_ ?_; rotate_left; (intro W hW; have hf := HF8.out W hW; go_split_ands; go_simp; try with_reducible rfl); try simp only [Act.put, lyA, lyB, lyC])
         | (refine wpS_skip rfl rfl (by rfl) ?_; try simp only [Act.put, lyA, lyB, lyC]))
        refine wpS_last rfl (by rfl) (fun K hK => ?_)
        go_simp
        refine hK _ _ ?_
        clear hK K
        try simp only [Act.put, lyA, lyB, lyC]
        refine wpS_nil ?_
        go_wp2_with fail
        refine Hal.out.mono ?_
        intro e w9 h9
        obtain ⟨A9, n9, c9, X9, rfl, r9, m9, x9, k9⟩ := h9
        have K9 := Lib.hid (And.intro r9 (And.intro m9 (And.intro x9 k9)))
        clear r9 m9 x9 k9
        go_wp2_with fail
        go_ret
        rw [K8.out.2, if_neg (fun h => by have h2 := h.1; cases h2)]
        exact OutPost.up K8.out.1 (AllPost.out hq1 K8.out.1.cx.ul ⟨A9, n9, c9, X9, rfl, K9.out.1, K9.out.2.1, K9.out.2.2.1, K9.out.2.2.2⟩)
      | some x =>
       obtain ⟨B, rfl, hB, bB⟩ := hm8
       have HB := Lib.hid bB
       cases hs
       ·by_cases hx : x.a ≤ n
        ·have hx' : decide (x.a ≤ n) = true := decide_eq_true hx
         have HFB : Hid (∀ W, Below w8.heap.size w8 W → W.cell? ⟨p, 11, none⟩ = some (.int .i64 C.id) ∧ W.cell? ⟨p, 9, none⟩ = some (.int .i64 n) ∧ W.cell? ⟨B, 0, none⟩ = some (.int .i64 x.a)) := fun W hb => ⟨(HF8.out W hb).1, (HF8.out W hb).2, (HB.out.below hb).c 0⟩
         clear bB
         go_upto_region 13 with (fail)
         refine wp_region_S 22 (fun W => Below w8.heap.size w8 W) (.take 0 (.take 1 (.take 2 (.take 3 (.take 4 (.one 5 (.take 6 (.take 7 (.take 8 (.take 9 (.take 10 (.take 11 (.take 12 (.take 13 (.take 14 (.take 15 (.take 16 (.take 17 (.take 18 (.take 19 (.take 20 (.take 21 (.one 22 (.nil)))))))))))))))))))))))) (by kernel_rfl) (Below.refl _ _).drew (fun _ _ _ _ h => h) (fun hS => ?_)
         repeat (first
          | (refine wpS_take (v := ?_) rfl rfl (by rfl) ?_ ?_; rotate_left; (intro W hW; have hf := HFB.out W hW; go_split_ands; go_simp; try with_reducible rfl); try simp only [Act.put, lyA, lyB, lyC])
          | (refine wpS_skip rfl rfl (by rfl) ?_; try simp only [Act.put, lyA, lyB, lyC]))
         refine wpS_one rfl (by rfl) (fun K hK => ?_)
         go_simp
         go_at_call 109
         refine (Hhas.out).mono ?_
         rintro e w9 ⟨rfl, rfl⟩
         refine hK (fun W => Below w8.heap.size w8 W) _ _ (fun _ h => h) hS ?_
         clear hK K
         try simp only [Act.put, lyA, lyB, lyC]
         repeat (first
          | (refine wpS_take (v := ?_) rfl rfl (by rfl) ?_ ?_; rotate_left; (intro W hW; have hf := HFB.out W hW; go_split_ands; go_simp; try with_reducible rfl); try simp only [Act.put, lyA, lyB, lyC])
          | (refine wpS_skip rfl rfl (by rfl) ?_; try simp only [Act.put, lyA, lyB, lyC]))
         refine wpS_last rfl (by rfl) (fun K hK => ?_)
         go_simp
         refine hK _ _ ?_
         clear hK K
         try simp only [Act.put, lyA, lyB, lyC]
         refine wpS_nil ?_
         go_wp2_with fail
         refine Hfo.out.mono ?_
         rintro e w9 ⟨rfl, hto9⟩
         have T9 := Lib.hid hto9
         clear hto9
         go_wp2_with fail
         go_ret
         rw [K8.out.2, if_pos ⟨by first | trivial | rfl, by show decide (x.a ≤ n) = true; exact hx'⟩]
         exact outNil (K8.out.1.trans T9.out)
        ·have hx' : decide (x.a ≤ n) = false := decide_eq_false hx
         have HFB : Hid (∀ W, Below w8.heap.size w8 W → W.cell? ⟨p, 11, none⟩ = some (.int .i64 C.id) ∧ W.cell? ⟨p, 9, none⟩ = some (.int .i64 n) ∧ W.cell? ⟨B, 0, none⟩ = some (.int .i64 x.a)) := fun W hb => ⟨(HF8.out W hb).1, (HF8.out W hb).2, (HB.out.below hb).c 0⟩
         clear bB
         go_upto_region 13 with (fail)
         refine wp_region_S 22 (fun W => Below w8.heap.size w8 W) (.take 0 (.take 1 (.take 2 (.take 3 (.take 4 (.one 5 (.take 6 (.take 7 (.take 8 (.take 9 (.take 10 (.take 11 (.take 12 (.take 13 (.take 14 (.take 15 (.take 16 (.take 17 (.take 18 (.take 19 (.take 20 (.take 21 (.one 22 (.nil)))))))))))))))))))))))) (by kernel_rfl) (Below.refl _ _).drew (fun _ _ _ _ h => h) (fun hS => ?_)
         repeat (first
          | (refine wpS_take (v := ?_) rfl rfl (by rfl) ?_ ?_; rotate_left; (intro W hW; have hf := HFB.out W hW; go_split_ands; go_simp; try with_reducible rfl); try simp only [Act.put, lyA, lyB, lyC])
          | (refine wpS_skip rfl rfl (by rfl) ?_; try simp only [Act.put, lyA, lyB, lyC]))
         refine wpS_one rfl (by rfl) (fun K hK => ?_)
         go_simp
         go_at_call 109
         refine (Hhas.out).mono ?_
         rintro e w9 ⟨rfl, rfl⟩
         refine hK (fun W => Below w8.heap.size w8 W) _ _ (fun _ h => h) hS ?_
         clear hK K
         try simp only [Act.put, lyA, lyB, lyC]
         repeat (first
          | (refine wpS_take (v := ?_) rfl rfl (by rfl) ?_ ?_; rotate_left; (intro W hW; have hf := HFB.out W hW; go_split_ands; go_simp; try with_reducible rfl); try simp only [Act.put, lyA, lyB, lyC])
          | (refine wpS_skip rfl rfl (by rfl) ?_; try simp only [Act.put, lyA, lyB, lyC]))
         refine wpS_last rfl (by rfl) (fun K hK => ?_)
         go_simp
         refine hK _ _ ?_
         clear hK K
         try simp only [Act.put, lyA, lyB, lyC]
         refine wpS_nil ?_
         go_wp2_with fail
         refine Hal.out.mono ?_
         intro e w9 h9
         obtain ⟨A9, n9, c9, X9, rfl, r9, m9, x9, k9⟩ := h9
         have K9 := Lib.hid (And.intro r9 (And.intro m9 (And.intro x9 k9)))
         clear r9 m9 x9 k9
         go_wp2_with fail
         go_ret
         rw [K8.out.2, if_neg (fun h => by have h2 : decide (x.a ≤ n) = true := h.2; rw [hx'] at h2; cases h2)]
         exact OutPost.up K8.out.1 (AllPost.out hq1 K8.out.1.cx.ul ⟨A9, n9, c9, X9, rfl, K9.out.1, K9.out.2.1, K9.out.2.2.1, K9.out.2.2.2⟩)
       ·have HFB : Hid (∀ W, Below w8.heap.size w8 W → W.cell? ⟨p, 11, none⟩ = some (.int .i64 C.id) ∧ W.cell? ⟨p, 9, none⟩ = some (.int .i64 n) ∧ W.cell? ⟨B, 0, none⟩ = some (.int .i64 x.a)) := fun W hb => ⟨(HF8.out W hb).1, (HF8.out W hb).2, (HB.out.below hb).c 0⟩
        clear bB
        go_upto_region 13 with (fail)
        refine wp_region_S 22 (fun W => Below w8.heap.size w8 W) (.take 0 (.take 1 (.take 2 (.take 3 (.take 4 (.one 5 (.take 6 (.take 7 (.take 8 (.take 9 (.take 10 (.take 11 (.take 12 (.take 13 (.take 14 (.take 15 (.take 16 (.take 17 (.take 18 (.take 19 (.take 20 (.take 21 (.one 22 (.nil)))))))))))))))))))))))) (by kernel_rfl) (Below.refl _ _).drew (fun _ _ _ _ h => h) (fun hS => ?_)
        repeat (first
         | (refine wpS_take (v := ?_) rfl rfl (by rfl) ?_ ?_; rotate_left; (intro W hW; have hf := HFB.out W hW; go_split_ands; go_simp; try with_reducible rfl); try simp only [Act.put, lyA, lyB, lyC])
         | (refine wpS_skip rfl rfl (by rfl) ?_; try simp only [Act.put, lyA, lyB, lyC]))
        refine wpS_one rfl (by rfl) (fun K hK => ?_)
        go_simp
        go_at_call 109
        refine (Hhas.out).mono ?_
        rintro e w9 ⟨rfl, rfl⟩
        refine hK (fun W => Below w8.heap.size w8 W) _ _ (fun _ h => h) hS ?_
        clear hK K
        try simp only [Act.put, lyA, lyB, lyC]
        repeat (first
         | (refine wpS_take (v := ?_) rfl rfl (by rfl) ?_ ?_; rotate_left; (intro W hW; have hf := HFB.out W hW; go_split_ands; go_simp; try with_reducible rfl); try simp only [Act.put, lyA, lyB, lyC])
         | (refine wpS_skip rfl rfl (by rfl) ?_; try simp only [Act.put, lyA, lyB, lyC]))
        refine wpS_last rfl (by rfl) (fun K hK => ?_)
        go_simp
        refine hK _ _ ?_
        clear hK K
        try simp only [Act.put, lyA, lyB, lyC]
        refine wpS_nil ?_
        go_wp2_with fail
        refine Hal.out.mono ?_
        intro e w9 h9
        obtain ⟨A9, n9, c9, X9, rfl, r9, m9, x9, k9⟩ := h9
        have K9 := Lib.hid (And.intro r9 (And.intro m9 (And.intro x9 k9)))
        clear r9 m9 x9 k9
        go_wp2_with fail
        go_ret
        rw [K8.out.2, if_neg (fun h => by have h2 := h.1; cases h2)]
        exact OutPost.up K8.out.1 (AllPost.out hq1 K8.out.1.cx.ul ⟨A9, n9, c9, X9, rfl, K9.out.1, K9.out.2.1, K9.out.2.2.1, K9.out.2.2.2⟩)
     ·have e1 : (r2 != C.s.tm) = true := by simp [e]
      have e2 : errC 0 = .nilIface := rfl
      go_wp2_with fail
      go_ret
      rw [B4.out.2.2, if_pos (.inr fun h => e (congrArg Prod.snd h))]
      exact outNil T5.out
    ·have e1 : errC r1 = .iface 105 (.int .i64 r1) := if_neg h0
     go_wp2_with fail
     go_ret
     rw [B4.out.2.2, if_pos (.inr fun h => h0 (congrArg Prod.fst h))]
     exact outNil T5.out
  ·intro x q kl y y2 w3 cnt1 hkey hlx hR3 hat hrg3 hlt hg3 hs3 hen
   obtain ⟨x', ex, rfl, _⟩ := Maps.keyOf_int_inv Tryz.underlying3 hkey
   injection ex with _ ex
   subst ex
   simp only [peR_mk, Option.some.injEq, Prod.mk.injEq] at hR3
   obtain ⟨rfl, rfl⟩ := hR3
   have hq := O1.out.2.2.2.2.2.1.here hat
   have hk3 := (Kept.refl (· = W1.heap.size) wr).grown hg3 fun b e => by injection e with e; exact e.symm
   have o3 : w3.ownsRow w1.heap.size 190 2 (.slice A j c) j (flat mkc ms) := hk3.own R.out.1 fun b hb e => R.out.2.2.2.1 (e ▸ hb)
   have b3 : Below w1.heap.size w1 w3 := R.out.2.2.1.grown hg3 R.out.2.2.1.size (by intro b e; injection e with e; have := O1.out.2.2.1; omega)
   have K3 := Lib.hid (And.intro o3 (And.intro b3 (And.intro hrg3 (And.intro hs3 (And.intro hq hlx)))))
   clear hq hk3 o3 b3 hrg3 hat hkey hg3 hrg hs3 hlx
   have hjl : j ≤ 65 := by have := R.out.2.2.2.2.1; omega
   have hz3 : w1.heap.size ≤ w3.heap.size := K3.out.2.1.size
   unfold peV at hen ⊢
   go_wp2_with (at_builtin; go_loud (refine wpList_append_any (news := [.int .i64 x, .int .i64 q.mt]) _ Tryz.underlying191 mark_elem rfl (by omega) rfl rfl rfl ((K3.out.1.alloc _).alloc _) rfl (show Rd _ _ 2 _ 1 [.int .i64 x, .int .i64 q.mt] from Rd.blitg (cs := #[.int .i64 x, .int .i64 q.mt]) rfl (by simp)) (by intro u hu; simp only [List.mem_cons, List.not_mem_nil, or_false] at hu; rcases hu with rfl | rfl <;> rfl) (by omega) (by simp; omega) rfl rfl ?_; intro A1 c1 w6 hown1 hg1 hat1))
   go_roundg cnt1
   case measure => exact hlt
   case rel =>
    have hr2 := R.out.2.2.2.2
    have hz5 : W1.heap.size + 1 ≤ w3.heap.size := by rw [K3.out.2.2.2.1]; exact hr2.2
    refine ⟨_, ms ++ [⟨x, q.mt⟩], A1, j + 1, c1, rfl, ?_, ?_, R.out.2.1.step K3.out.2.2.2.2.2 K3.out.2.2.2.2.1, ?_, ?_, by omega, ?_⟩
    ·refine ((K3.out.2.2.1.alloc _).alloc _).kept hg1 ?_ ?_
     ·intro e
      have := (own_lt R.out.1 m.q e.symm).1
      have := H.out.1.pm.lt
      have := O1.out.2.2.2.1.size
      omega
     ·exact fun e => R.out.2.2.2.1 e.symm
    ·have e1 : flat mkc (ms ++ [⟨x, q.mt⟩]) = flat mkc ms ++ [.int .i64 x, .int .i64 q.mt] := by simp [flat, mkc]
     rw [e1]
     exact hown1
    ·refine (((K3.out.2.1.alloc hz3 _).alloc (by simp; omega) _)).grown hg1 (by simp; omega) ?_
     intro b e
     exact (own_lt R.out.1 b e).1
    ·rcases hat1 with e | e
     ·rw [e]; exact R.out.2.2.2.1
     ·rw [e]
      intro e2
      injection e2 with e2
      simp at e2
      omega
    ·have := hg1.size
     simp at this
     omega
end Go.Proofs.YtmhaahcbmdhinaaGreatDoor
