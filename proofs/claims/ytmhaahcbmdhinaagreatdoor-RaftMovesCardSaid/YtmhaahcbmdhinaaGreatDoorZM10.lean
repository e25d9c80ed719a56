/- Walk: (*raft.Core).member.
   (What c12's text of this name holds is lib's Clone.)
   Walk of chunk.Put.
   Walks: Newer of both.
   Walk of entry.Add, where an entry can be added. -/
import Derived.Test.YtmhaahcbmdhinaaGreatDoorZM9
import Derived.Test.YtmhaahcbmdhinaaGreatDoorZM1
import Derived.Deep.RegionHeld3
import Derived.Test.YtmhaahcbmdhinaaGreatDoorZM6
import Derived.Test.YtmhaahcbmdhinaaGreatDoorZM8
namespace Go.Proofs.YtmhaahcbmdhinaaGreatDoor
open Go.RowKit Go.Shelf
set_option maxRecDepth 100000
set_option linter.unusedVariables false
set_option linter.unusedSimpArgs false
attribute [local go_sem] Oper.semAt_some
def CellsAt (W : World) (B : Nat) (cs : Array Value) (t : TypeId) : Prop := W.heap[B]? = some (.cells cs t)
section
variable {W W' : World} {B : Nat} {cs : Array Value} {t : TypeId}
theorem CellsAt.lt (h : CellsAt W B cs t) : B < W.heap.size := (Array.getElem?_eq_some_iff.1 h).1
theorem CellsAt.new (W : World) (cs : Array Value) (t : TypeId) : CellsAt (W.alloc (.cells cs t)) W.heap.size cs t := World.alloc_heap_new W _
theorem CellsAt.bx (h : CellsAt W B cs t) : Bx W B cs := ⟨t, h⟩
theorem CellsAt.alloc (h : CellsAt W B cs t) (o : Obj) : CellsAt (W.alloc o) B cs t := (Below.heap_alloc W o B h.lt).trans h
theorem CellsAt.far (h : CellsAt W B cs t) {p : Addr} (hp : B ≠ p.block) (v : Value) : CellsAt (W.setCell p v) B cs t := (Below.heap_setCell W p v B hp).trans h
theorem CellsAt.below {k : Nat} (h : CellsAt W B cs t) (hb : Below k W W') (hk : B < k) : CellsAt W' B cs t := (hb.block B hk).trans h
theorem CellsAt.kept {row : Option Nat} (h : CellsAt W B cs t) (hg : W.grownBy W' row) (hne : some B ≠ row) : CellsAt W' B cs t := (hg.block B h.lt hne).trans h
end
theorem cellsAt_own {β : Type} (B : Nat) (t : TypeId) (f : β → Array Value) : Own (fun s W => CellsAt W B (f s) t) := fun s X Y row hs hg hrow =>
 hs.kept hg (fun e => by
  obtain ⟨o, ho, hc⟩ := hrow B e.symm
  have := hs
  unfold CellsAt at this
  rw [this] at ho
  injection ho with ho
  subst ho
  exact absurd hc (by simp [Obj.isCells]))
theorem back_stops (F : Fence) (d : Nat) (h7 : F.fn 209) (hro : F.round = none) (hd : 1 ≤ d) (Bs n c : Nat) (A : Option Addr) (L : List Er) (t : TypeId) (hn : n ≤ 1000000) (w0 : World) (hS : CellsAt w0 Bs #[.slice A n c] t) (hr : Rd w0 (· < w0.heap.size) 4 A n (flat ecell L)) :
  SeqStopsK F d Tryz.prog 209 #[.pointer (some ⟨Bs, 0, none⟩)] bkc (Below w0.heap.size) (fun ys => ys.map Prod.snd = L.reverse) (fun pre => pre.map Prod.snd <+: L.reverse) n w0 := fun l J Jx W hW _ _ hY h0 =>
 back1_in F d h7 hro hd l Bs w0.heap.size n c A L hn J Jx hY W ((hS.below hW hS.lt).bx.c 0) hS.lt (hr.keep fun q hq _ => hW.block q hq) h0
def mch (upto : Int) (x : Er) : Bool := decide (x.c = 2) && decide (x.a ≤ upto)
theorem memE_er (L : List Er) (upto : Int) : memE (L.map en) upto = (L.reverse.find? (mch upto)).map en := by
 unfold memE
 rw [← List.map_reverse, List.find?_map]
 rfl
def MembPost (W : World) (L : List Er) (upto : Int) (e : Ending) (w' : World) : Prop :=
 Below W.heap.size W w' ∧ match L.reverse.find? (mch upto) with
  | none => e = .returned (.pointer none)
  | some x => ∃ B, e = .returned (.pointer (some ⟨B, 0, none⟩)) ∧ W.heap.size ≤ B ∧ Bx w' B #[.int .i64 x.a, .int .i64 x.b, .int .i64 x.c, .slice x.A x.n x.m]
set_option maxHeartbeats 4000000 in
theorem member_any (p : Nat) (upto : Int) (A : Option Addr) (n c : Nat) (L : List Er) (w : World) {ok : Nat → Prop} (hp : w.cell? ⟨p, 4, none⟩ = some (.slice A n c)) (hr : Rd w ok 4 A n (flat ecell L)) (hn : n ≤ 1000000) :
  Calls Tryz.prog 110 #[.pointer (some ⟨p, 0, none⟩), .int .i64 upto] w (MembPost w L upto) := by
 refine (callsIn_wide (n := 9)).1 ?_
 have hpl : p < w.heap.size := World.block_lt_of_cell? w _ hp
 refine callsIn_of_wp_marks Tryz.func110 rfl trivial ?_ rfl
 simp only [Tryz.ntmps110, List.size_toArray, List.length_cons, List.length_nil, Nat.reduceAdd, Nat.reduceSub, Array.replicate_succ, Array.replicate_zero, List.push_toArray, List.append_toArray, List.nil_append, List.cons_append]
 gi_wp2
 refine ⟨trivial, (back_in Fence.wide 8 trivial rfl _ _ _ _).mono ?_⟩
 rintro e w' ⟨rfl, rfl⟩
 gi_wp2
 have hB0 : Below w.heap.size w (((w.alloc (.cells #[.int .i64 upto] 3)).alloc (.cells #[.pointer none] 182)).alloc (.cells #[.slice A n c] 36)) := (((Below.refl _ w).alloc (Nat.le_refl _) _).alloc (by simp) _).alloc (by simp; omega) _
 have bU := ((CellsAt.new w #[.int .i64 upto] 3).alloc (.cells #[.pointer none] 182)).alloc (.cells #[.slice A n c] 36)
 have bR := (CellsAt.new (w.alloc (.cells #[.int .i64 upto] 3)) #[.pointer none] 182).alloc (.cells #[.slice A n c] 36)
 have bS := CellsAt.new ((w.alloc (.cells #[.int .i64 upto] 3)).alloc (.cells #[.pointer none] 182)) #[.slice A n c] 36
 have hsz : (((w.alloc (.cells #[.int .i64 upto] 3)).alloc (.cells #[.pointer none] 182)).alloc (.cells #[.slice A n c] 36)).heap.size = w.heap.size + 3 := by simp
 simp only [World.size_alloc] at bR bS
 obtain ⟨W0, hW0⟩ : ∃ W0, ((w.alloc (.cells #[.int .i64 upto] 3)).alloc (.cells #[.pointer none] 182)).alloc (.cells #[.slice A n c] 36) = W0 := ⟨_, rfl⟩
 rw [hW0] at hB0 bU bR bS hsz ⊢
 clear hW0
 refine wpIn_rangeFunc_ownH rfl (by omega) (gf := 209) (lb := #[.pointer (some ⟨w.heap.size + 1 + 1, 0, none⟩)]) rfl trivial (enters_of Tryz.func209 (by kernel_rfl) rfl)
  (back_stops Fence.wide (9 - 1) trivial rfl (by omega) (w.heap.size + 1 + 1) n c A L _ hn W0 bS ((hr.lt (by omega)).below hB0 |>.mono fun q hq => by have := hq.2; omega)) belowK_t (belowK_b (Nat.le_refl _)) (Below.refl _ _) (fun _ => rfl)
  (fun pre W => ((((∀ x ∈ pre, mch upto x.2 = false) ∧ CellsAt W (w.heap.size + 1 + 1) #[.slice A n c] 36) ∧ CellsAt W w.heap.size #[.int .i64 upto] 3) ∧ CellsAt W (w.heap.size + 1) #[.pointer none] 182) ∧ Below w.heap.size w W)
  (fun k pre W => ((∃ (ini : List (Int × Er)) (x : Int × Er) (B : Nat), (k = .ret ∧ pre = ini ++ [x] ∧ (∀ y ∈ ini, mch upto y.2 = false) ∧ mch upto x.2 = true ∧ w.heap.size ≤ B) ∧ CellsAt W (w.heap.size + 1) #[.pointer (some ⟨B, 0, none⟩)] 182 ∧ CellsAt W B #[.int .i64 x.2.a, .int .i64 x.2.b, .int .i64 x.2.c, .slice x.2.A x.2.n x.2.m] 62)) ∧ Below w.heap.size w W)
  (OwnFrom.and (OwnFrom.and (OwnFrom.and (OwnFrom.and (ownFrom_pure _ _) (Own.from (cellsAt_own _ _ _) _)) (Own.from (cellsAt_own _ _ _) _)) (Own.from (cellsAt_own _ _ _) _)) (ownFrom_below (Nat.le_refl _) (by omega)))
  (fun k => OwnFrom.and (fun s X Y row hs hg hr => by
   obtain ⟨ini, x, B, h1, h2, h3⟩ := hs
   exact ⟨ini, x, B, h1, cellsAt_own _ _ (fun (_ : Unit) => _) () X Y row h2 hg (fun r e => (hr r e).2), cellsAt_own _ _ (fun (_ : Unit) => _) () X Y row h3 hg (fun r e => (hr r e).2)⟩) (ownFrom_below (Nat.le_refl _) (by omega)))
  ⟨⟨⟨⟨by simp, bS⟩, bU⟩, bR⟩, hB0⟩
  (fun x a' W => ∃ B, w.heap.size + 3 ≤ B ∧ CellsAt W B #[.int .i64 x.2.a, .int .i64 x.2.b, .int .i64 x.2.c, .slice x.2.A x.2.n x.2.m] 62 ∧ a' = { tmps := #[.pointer (some ⟨p, 0, none⟩), .int .i64 upto, undef, .pointer (some ⟨w.heap.size, 0, none⟩), .pointer (some ⟨w.heap.size + 1, 0, none⟩), undef, .pointer (some ⟨B, 0, none⟩), .pointer (some ⟨p, 0, none⟩), .pointer (some ⟨p, 0, none⟩), .pointer (some ⟨p, 0, none⟩), .pointer (some ⟨p, 2, none⟩), .pointer (some ⟨p, 4, none⟩), .slice A n c, .func (.func 209) #[] #[.pointer (some ⟨w.heap.size + 1 + 1, 0, none⟩)], .int .i64 x.1, ev x.2, undef, undef, undef, undef, undef, undef, undef, undef, undef], defers := [] })
  (fun x a' _ X Y row hs hg hr => by obtain ⟨B, e1, e2, e3⟩ := hs; exact ⟨B, e1, cellsAt_own B _ (fun (_ : Unit) => _) () X Y row e2 hg (fun r e => (hr r e).2), e3⟩)
  ?assign ?body ?done ?stop
 case assign =>
  rintro l pre x W K ⟨⟨⟨⟨hp1, bS1⟩, bU1⟩, bR1⟩, hB1⟩ hK
  unfold bkc ev
  gi_wp2
  have hsW := hB1.size
  have hlW := bS1.lt
  exact hK _ _ ((KeepsOthers.alloc _ _).from _) ((Below.refl _ W).alloc (by have := bS.lt; omega) _) ⟨⟨⟨⟨hp1, bS1.alloc _⟩, bU1.alloc _⟩, bR1.alloc _⟩, hB1.alloc hsW _⟩ ⟨W.heap.size, by omega, CellsAt.new W _ _, rfl⟩
 case body =>
  rintro l pre x a' W hl ⟨r, hr⟩ ⟨⟨⟨⟨hp1, bS1⟩, bU1⟩, bR1⟩, hB1⟩ ⟨B, hBx, bX, rfl⟩ hlt
  have cU := bU1.bx.c 0
  have cR := bR1.bx.c 0
  have fR := bR1.bx.f 0
  have cX := bX.bx.c4
  have hno : mch upto x.2 = false → ∀ y ∈ pre ++ [x], mch upto y.2 = false := fun h y hy => by
   rcases List.mem_append.1 hy with h1 | h1
   ·exact hp1 y h1
   ·rw [List.mem_singleton.1 h1]; exact h
  by_cases e1 : x.2.c = 2
  ·by_cases e2 : x.2.a ≤ upto
   ·have hm : mch upto x.2 = true := by simp [mch, e1, e2]
    gi_wp2
    have hx : CellsAt (W.setCell ⟨w.heap.size + 1, 0, none⟩ (.pointer (some ⟨B, 0, none⟩))) (w.heap.size + 1) #[.pointer (some ⟨B, 0, none⟩)] 182 := by
     have := bR1
     unfold CellsAt at this ⊢
     simp [World.setCell, Array.getElem?_modify, this]
    exact ⟨(KeepsOthers.setCell _ _ _).from _, ⟨pre, x, B, ⟨rfl, rfl, hp1, hm, by omega⟩, hx, bX.far (by show B ≠ w.heap.size + 1; omega) _⟩, hB1.setCell (by show w.heap.size ≤ w.heap.size + 1; omega) _⟩
   ·have hm : mch upto x.2 = false := by simp [mch, e1, e2]
    have hno' := hno hm
    gi_wp2
    exact ⟨KeepsFrom.refl _ _, Below.refl _ _, ⟨⟨⟨by first | exact hno' | exact fun a b h => hno' (a, b) h, bS1⟩, bU1⟩, bR1⟩, hB1⟩
  ·have hm : mch upto x.2 = false := by simp [mch, e1]
   have hno' := hno hm
   gi_wp2
   exact ⟨KeepsFrom.refl _ _, Below.refl _ _, ⟨⟨⟨by first | exact hno' | exact fun a b h => hno' (a, b) h, bS1⟩, bU1⟩, bR1⟩, hB1⟩
 case done =>
  rintro D zs W hD hzs ⟨⟨⟨⟨hp1, bS1⟩, bU1⟩, bR1⟩, hB1⟩ hK
  have cR := bR1.bx.c 0
  have fR := bR1.bx.f 0
  gi_wp2
  have hK' := (KeepsOthers.setCell W ⟨w.heap.size + 1, 0, none⟩ (.pointer none)).same D _ hK rfl
  refine ⟨by simp, .inl ⟨_, _, rfl, run_takeDeferred hK', ?_⟩⟩
  have hc5 := cell_kept (World.cell?_setCell_same' W ⟨w.heap.size + 1, 0, none⟩ (.pointer none) (by rw [cR]; rfl)) (grownBy_putObj' _ D (.deferred none)) (fun r e => by cases e; exact ⟨_, hK', rfl⟩)
  refine ⟨.pointer none, by simp [results, Tryz.results110, go_sem, hc5], (hB1.setCell (p := ⟨w.heap.size + 1, 0, none⟩) (by show w.heap.size ≤ w.heap.size + 1; omega) _).trans (belowK_b (w := w) (Nat.le_refl _) _ D _ _ (by omega) hK' rfl rfl), ?_⟩
  have hf : L.reverse.find? (mch upto) = none := by
   rw [List.find?_eq_none]
   intro y hy
   rw [← hzs] at hy
   obtain ⟨z, hz, rfl⟩ := List.mem_map.1 hy
   rw [hp1 z hz]
   decide
  rw [hf]
 case stop =>
  rintro D k pre W hD hpre ⟨⟨ini, x, B, ⟨rfl, rfl, h2, h3, h4⟩, bR1, bX⟩, hB1⟩ hK
  gi_wp2
  refine ⟨by simp, .inl ⟨_, _, rfl, run_takeDeferred hK, ?_⟩⟩
  have hc5 := cell_kept (bR1.bx.c 0) (grownBy_putObj' _ D (.deferred none)) (fun r e => by cases e; exact ⟨_, hK, rfl⟩)
  refine ⟨.pointer (some ⟨B, 0, none⟩), by simp [results, Tryz.results110, go_sem, hc5], hB1.trans (belowK_b (w := w) (Nat.le_refl _) W D _ _ (by omega) hK rfl rfl), ?_⟩
  have hf : L.reverse.find? (mch upto) = some x.2 := by
   obtain ⟨t, ht⟩ := hpre
   rw [← ht, List.map_append, List.append_assoc, List.find?_append, List.find?_eq_none.2 (fun y hy => by
    obtain ⟨z, hz, rfl⟩ := List.mem_map.1 hy
    rw [h2 z hz]
    decide)]
   simp [h3]
  rw [hf]
  refine ⟨B, rfl, h4, (bX.kept (grownBy_putObj' _ D (.deferred none)) ?_).bx⟩
  intro e
  injection e with e
  subst e
  have h5 := bX
  unfold CellsAt at h5
  rw [h5] at hK
  cases hK
end Go.Proofs.YtmhaahcbmdhinaaGreatDoor
namespace Go.Proofs.YtmhaahcbmdhinaaGreatDoor
end Go.Proofs.YtmhaahcbmdhinaaGreatDoor
namespace Go.Proofs.YtmhaahcbmdhinaaGreatDoor
open Go.RowKit
set_option linter.unusedVariables false
set_option linter.unusedSimpArgs false
def putHave (bk : Int) (h : List UInt8) (key off : Int) : List UInt8 := if key ≠ bk ∨ off = 0 then [] else h
def putR (bk : Int) (h : List UInt8) (key off : Int) (piece : List UInt8) (last : Bool) : Int × List UInt8 × List UInt8 × Int × Bool :=
 if off ≠ (putHave bk h key off).length ∨ (piece.length : Int) > 1048576 - (putHave bk h key off).length then (bk, h, [], if key ≠ bk then 0 else h.length, false)
 else if last then (key, [], putHave bk h key off ++ piece, (putHave bk h key off ++ piece).length, true)
 else (key, putHave bk h key off ++ piece, [], (putHave bk h key off ++ piece).length, false)

attribute [local go_sem] eqlB
end Go.Proofs.YtmhaahcbmdhinaaGreatDoor
namespace Go.Proofs.YtmhaahcbmdhinaaGreatDoor
open Go.RowKit
set_option maxRecDepth 100000
set_option linter.unusedVariables false
set_option linter.unusedSimpArgs false
def newB (b t : Int) (l : List En) (ix tm : Int) : Bool := lmay b t l && (decide (lstB t l < tm) || decide (tm = lstB t l) && decide (lstA b l ≤ ix))
set_option maxHeartbeats 1600000 in
theorem newer_any (b t ix tm : Int) (A : Option Addr) (n c : Nat) (L : List Er) (w : World) {ok : Nat → Prop} (hr : Rd w ok 4 A n (flat ecell L)) (hw : Wel L) (hn : n ≤ 1000000) :
  Calls Tryz.prog 124 #[.agg #[.int .i64 b, .int .i64 t, .slice A n c], .int .i64 ix, .int .i64 tm] w (BoolPost w (newB b t (L.map en) ix tm)) := by
 have hla := fun ob => last_any b t A n c L (w.alloc ob) (hr.alloc ob) hn
 have hma := fun W (hb : Below w.heap.size w W) => may_any b t A n c L W (hr.below hb) hw hn
 obtain ⟨V, hV⟩ : ∃ V, newB b t (L.map en) ix tm = V := ⟨_, rfl⟩
 rw [hV]
 unfold newB at hV
 generalize lmay b t (L.map en) = q at hla hma hV
 generalize lstA b (L.map en) = x at hla hV
 generalize lstB t (L.map en) = y at hla hV
 have Bb := Lib.hid (Bx.new w #[.int .i64 b, .int .i64 t, .slice A n c] 38 rfl)
 have Hla := Lib.hid hla
 have Hma := Lib.hid hma
 clear hla hma hr hw
 have HV := Lib.hid hV
 clear hV
 cases q
 ·go_enter Tryz.func124, Tryz.ntmps124
  go_wp2_with fail
  refine (Hla.out _).mono ?_
  rintro e w2 ⟨rfl, hb2⟩
  obtain ⟨k0, k1, k2, -⟩ := (Bb.out.below hb2).c3
  have hb3 := ((Below.refl w.heap.size w).alloc (Nat.le_refl _) (.cells #[.int .i64 b, .int .i64 t, .slice A n c] 38)).trans (hb2.mono (by simp))
  clear hb2
  go_wp2_with fail
  refine (Hma.out _ hb3).mono ?_
  rintro e w3 ⟨rfl, hb4⟩
  go_wp2_with fail
  go_ret
  exact ⟨ret_bool (by rw [← HV.out]; simp_all), hb3.trans (hb4.mono hb3.size)⟩
 ·by_cases h1 : y < tm
  ·have h1d : decide (y < tm) = true := decide_eq_true h1
   go_enter Tryz.func124, Tryz.ntmps124
   go_wp2_with fail
   refine (Hla.out _).mono ?_
   rintro e w2 ⟨rfl, hb2⟩
   obtain ⟨k0, k1, k2, -⟩ := (Bb.out.below hb2).c3
   have hb3 := ((Below.refl w.heap.size w).alloc (Nat.le_refl _) (.cells #[.int .i64 b, .int .i64 t, .slice A n c] 38)).trans (hb2.mono (by simp))
   clear hb2
   go_wp2_with fail
   refine (Hma.out _ hb3).mono ?_
   rintro e w3 ⟨rfl, hb4⟩
   go_wp2_with fail
   go_ret
   exact ⟨ret_bool (by rw [← HV.out]; simp_all), hb3.trans (hb4.mono hb3.size)⟩
  ·have h1d : decide (y < tm) = false := decide_eq_false h1
   by_cases h2 : tm = y
   ·subst h2
    by_cases h3 : x ≤ ix
    ·have h3d : decide (x ≤ ix) = true := decide_eq_true h3
     go_enter Tryz.func124, Tryz.ntmps124
     go_wp2_with fail
     refine (Hla.out _).mono ?_
     rintro e w2 ⟨rfl, hb2⟩
     obtain ⟨k0, k1, k2, -⟩ := (Bb.out.below hb2).c3
     have hb3 := ((Below.refl w.heap.size w).alloc (Nat.le_refl _) (.cells #[.int .i64 b, .int .i64 t, .slice A n c] 38)).trans (hb2.mono (by simp))
     clear hb2
     go_wp2_with fail
     refine (Hma.out _ hb3).mono ?_
     rintro e w3 ⟨rfl, hb4⟩
     go_wp2_with fail
     go_ret
     exact ⟨ret_bool (by rw [← HV.out]; simp_all), hb3.trans (hb4.mono hb3.size)⟩
    ·have h3d : decide (x ≤ ix) = false := decide_eq_false h3
     go_enter Tryz.func124, Tryz.ntmps124
     go_wp2_with fail
     refine (Hla.out _).mono ?_
     rintro e w2 ⟨rfl, hb2⟩
     obtain ⟨k0, k1, k2, -⟩ := (Bb.out.below hb2).c3
     have hb3 := ((Below.refl w.heap.size w).alloc (Nat.le_refl _) (.cells #[.int .i64 b, .int .i64 t, .slice A n c] 38)).trans (hb2.mono (by simp))
     clear hb2
     go_wp2_with fail
     refine (Hma.out _ hb3).mono ?_
     rintro e w3 ⟨rfl, hb4⟩
     go_wp2_with fail
     go_ret
     exact ⟨ret_bool (by rw [← HV.out]; simp_all), hb3.trans (hb4.mono hb3.size)⟩
   ·have h2d : (tm == y) = false := by simpa using h2
    go_enter Tryz.func124, Tryz.ntmps124
    go_wp2_with fail
    refine (Hla.out _).mono ?_
    rintro e w2 ⟨rfl, hb2⟩
    obtain ⟨k0, k1, k2, -⟩ := (Bb.out.below hb2).c3
    have hb3 := ((Below.refl w.heap.size w).alloc (Nat.le_refl _) (.cells #[.int .i64 b, .int .i64 t, .slice A n c] 38)).trans (hb2.mono (by simp))
    clear hb2
    go_wp2_with fail
    refine (Hma.out _ hb3).mono ?_
    rintro e w3 ⟨rfl, hb4⟩
    go_wp2_with fail
    go_ret
    exact ⟨ret_bool (by rw [← HV.out]; simp_all), hb3.trans (hb4.mono hb3.size)⟩
attribute [local go_sem ↓] Go.wp_at_zero Go.wp_at_succ
theorem add_end {W W6 : World} {Bx B0 n c4 : Nat} {A4 : Option Addr} {L4 : List Er} {y : Er} (hro : Ro W Bx A4 n c4 L4) (hnew : Rd W (fun b => B0 ≤ b ∧ A4.map (·.block) ≠ some b) 1 y.A y.n (bs y.d)) (h1 : y.n ≤ y.m) (h2 : y.m ≤ maxLen) (hB : B0 ≤ Bx) (hg6 : W.grownBy W6 (A4.map (·.block))) : DatB W6 B0 (L4 ++ [y]) := by
 intro z hz
 have hz' : Rd W (fun b => B0 ≤ b ∧ A4.map (·.block) ≠ some b) 1 z.A z.n (bs z.d) ∧ z.n ≤ z.m ∧ z.m ≤ maxLen := by
  rcases List.mem_append.1 hz with hz | hz
  ·exact ⟨(hro.dt z hz).1.mono fun b hb => ⟨Nat.le_trans hB hb.1, hb.2⟩, (hro.dt z hz).2⟩
  ·obtain rfl := List.mem_singleton.1 hz
   exact ⟨hnew, h1, h2⟩
 exact ⟨(hz'.1.grown hg6 (fun g hg h => h.2 hg)).mono fun b hb => hb.1, hz'.2⟩
def AddPost (W : World) (b t tm kd z : Int) (n : Nat) (L : List Er) (d : List UInt8) (e : Ending) (w' : World) : Prop :=
 ∃ A c L', e = .returned (.tuple #[.agg #[.int .i64 b, .int .i64 t, .slice A (n + 1) c], .nilIface]) ∧ Rd w' (W.heap.size ≤ ·) 4 A (n + 1) (flat ecell L') ∧ DatB w' W.heap.size L' ∧ L'.map en = L.map en ++ [⟨z + 1, tm, kd, d⟩] ∧ n + 1 ≤ c ∧ c ≤ maxLen ∧ Below W.heap.size W w'
set_option maxHeartbeats 1600000 in
theorem add_yes (b t tm kd : Int) (A : Option Addr) (n c : Nat) (L : List Er) (Ad : Option Addr) (nd cd : Nat) (d : List UInt8) (w : World) (hr : Rd w T 4 A n (flat ecell L)) (hd : Dat w L) (hw : Wel L) (hs : ∀ x ∈ L, x.n ≤ 1000000) (hm : lmay b t (L.map en) = true) (hdr : Rd w T 1 Ad nd (bs d)) (hnd : (nd : Int) ≤ 4096)
  (h1 : lstB t (L.map en) ≤ tm) (h2 : 1 ≤ tm) (h3 : tm ≤ 1099511627776) (h4 : 0 ≤ kd) (h5 : kd ≤ 2) (h6 : lstA b (L.map en) < 1099511627776) (hn : (n : Int) < 4096) :
  Calls Tryz.prog 54 #[.agg #[.int .i64 b, .int .i64 t, .slice A n c], .int .i64 tm, .int .i64 kd, .slice Ad nd cd] w (AddPost w b t tm kd (lstA b (L.map en)) n L d) := by
 have hr' := hr.lt (by omega)
 have hdr' := hdr.lt (by omega)
 have hlast0 : 0 ≤ lstA b (L.map en) := by rw [lmay_last hm]; have := (lmay_iff.1 hm).1; omega
 obtain ⟨W0, hW0⟩ : ∃ W0, W0 = (w.alloc (.cells #[.int .i64 b, .int .i64 t, .slice A n c] 38)).alloc (.cells #[.int .i64 0, .int .i64 0, .slice none 0 0] 38) := ⟨_, rfl⟩
 have b0 : Bx W0 w.heap.size #[.int .i64 b, .int .i64 t, .slice A n c] := by subst hW0; exact (Bx.new _ _ _ rfl).alloc _
 have F0 : Fr W0 (w.heap.size + 1) 3 W0 := by subst hW0; exact Fr.new (by simp) rfl
 have r0 : Rd W0 (· < w.heap.size) 4 A n (flat ecell L) := by subst hW0; exact ((hr'.mono fun b hb => hb.2).alloc _).alloc _
 have e0 : Rd W0 (· < w.heap.size) 1 Ad nd (bs d) := by subst hW0; exact ((hdr'.mono fun b hb => hb.2).alloc _).alloc _
 have d0 : ∀ x ∈ L, Rd W0 (· < w.heap.size) 1 x.A x.n (bs x.d) ∧ x.n ≤ x.m ∧ x.m ≤ maxLen := by
  subst hW0
  exact fun x hx => ⟨(((((hd x hx).1.lt (by omega)).mono fun b hb => hb.2).alloc _).alloc _), (hd x hx).2⟩
 have hbe : Below w.heap.size w W0 := by subst hW0; exact ((Below.refl _ _).alloc (Nat.le_refl _) _).alloc (by simp) _
 have hz : W0.heap.size = w.heap.size + 2 := by subst hW0; simp
 have u0 : W0.cell? ⟨w.heap.size, 0, none⟩ = some (.int .i64 b) := b0.c 0
 have u1 : W0.cell? ⟨w.heap.size, 1, none⟩ = some (.int .i64 t) := b0.c 1
 have u2 : W0.cell? ⟨w.heap.size, 2, none⟩ = some (.slice A n c) := b0.c 2
 have sof : ∀ W, Fr W0 (w.heap.size + 1) 3 W → (Fr W0 (w.heap.size + 1) 3 W ∧ W.cell? ⟨w.heap.size, 0, none⟩ = some (.int .i64 b) ∧ W.cell? ⟨w.heap.size, 1, none⟩ = some (.int .i64 t) ∧ W.cell? ⟨w.heap.size, 2, none⟩ = some (.slice A n c) ∧ W.cell? ⟨w.heap.size + 1, 0, none⟩ = some (peek W (w.heap.size + 1) 0) ∧ W.cell? ⟨w.heap.size + 1, 1, none⟩ = some (peek W (w.heap.size + 1) 1) ∧ W.cell? ⟨w.heap.size + 1, 2, none⟩ = some (peek W (w.heap.size + 1) 2) ∧ W.frozen? ⟨w.heap.size + 1, 0, none⟩ = false ∧ W.frozen? ⟨w.heap.size + 1, 1, none⟩ = false ∧ W.frozen? ⟨w.heap.size + 1, 2, none⟩ = false) :=
  fun W F2 => ⟨F2, F2.cell (by omega) u0, F2.cell (by omega) u1, F2.cell (by omega) u2, F2.pk (by omega), F2.pk (by omega), F2.pk (by omega), F2.fz _, F2.fz _, F2.fz _⟩
 have hmm := fun W (h : Fr W0 (w.heap.size + 1) 3 W) => may_any b t A n c L W (h.rd r0 (by omega)) hw (by omega)
 have hlt := fun W (h : Fr W0 (w.heap.size + 1) 3 W) => last_any b t A n c L W (h.rd r0 (by omega)) (by omega)
 have how : ∀ W, Fr W0 (w.heap.size + 1) 3 W → Calls Tryz.prog 117 #[.slice A n c] W (fun e w' => ∃ A' c' L', e = .returned (.slice A' n c') ∧ Ro w' W.heap.size A' n c' L' ∧ Same L L' ∧ Below W.heap.size W w' ∧ W0.heap.size ≤ W.heap.size) := fun W h => (owns_any A n c L W (h.rd r0 (by omega)) (fun x hx => ⟨(h.rd (d0 x hx).1 (by omega)).any, (d0 x hx).2⟩) hs (by omega)).mono fun e w' ⟨A', c', L', h1, h2, h3, h4⟩ => ⟨A', c', L', h1, h2, h3, h4, h.gr.size⟩
 have hcl : ∀ W, Fr W0 (w.heap.size + 1) 3 W → Calls Tryz.prog 98 #[.slice Ad nd cd] W (fun e w' => ∃ A' c', e = .returned (.slice A' nd c') ∧ w'.ownsRow W.heap.size 5 1 (.slice A' nd c') nd (bs d) ∧ Below W.heap.size W w' ∧ W0.heap.size ≤ W.heap.size) := fun W h => (clone_any Ad nd cd (bs d) W (h.rd e0 (by omega)) (bs_one _) (by omega)).mono fun e w' ⟨A', c', h1, h2, h3⟩ => ⟨A', c', h1, h2, h3, h.gr.size⟩
 rw [hm] at hmm
 generalize lstA b (L.map en) = z at hlt hlast0 h6 ⊢
 generalize lstB t (L.map en) = y at hlt h1
 have Hmm := Lib.hid hmm
 have Hlt := Lib.hid hlt
 have How := Lib.hid how
 have Hcl := Lib.hid hcl
 have HW := Lib.hid hW0
 have s0 := sof _ F0
 have Hz := Lib.hid hz
 clear hW0 b0 u0 u1 u2 hr hr' hz r0 d0 e0 hmm hlt how hcl hd hs hw hdr hdr' hm
 have t1 : ¬ tm < y := by omega
 have t2 : ¬ tm < 1 := by omega
 have t3 : decide (1099511627776 < tm) = false := decide_eq_false (by omega)
 have t4 : decide (kd < 0) = false := decide_eq_false (by omega)
 have t5 : decide (2 < kd) = false := decide_eq_false (by omega)
 have t6 : decide (1099511627776 ≤ z) = false := decide_eq_false (by omega)
 have t7 : decide (4096 < (nd : Int)) = false := decide_eq_false (by omega)
 have t8 : decide (4096 ≤ (n : Int)) = false := decide_eq_false (by omega)
 have t9 : decide (tm < y) = false := decide_eq_false t1
 have t10 : decide (tm < 1) = false := decide_eq_false t2
 have w1 : IntKind.i64.wrap (z + 1) = z + 1 := by rw [IntKind.wrap_i64]; omega
 go_enter Tryz.func54, Tryz.ntmps54
 go_wp2_with fail
 rw [← HW.out]
 refine (Hmm.out _ F0).mono ?_
 rintro e w1 ⟨rfl, hb1⟩
 have F1 := F0.below hb1
 have s1 := sof _ F1
 go_split_ands
 go_wp2_with fail
 refine (Hlt.out _ F1).mono ?_
 rintro e w2 ⟨rfl, hb2⟩
 have F2 := F1.below hb2
 have s2 := sof _ F2
 go_split_ands
 go_wp2_with fail
 all_goals
  go_region_held3 (fun W => Fr W0 (w.heap.size + 1) 3 W ∧ W.cell? ⟨w.heap.size, 0, none⟩ = some (.int .i64 b) ∧ W.cell? ⟨w.heap.size, 1, none⟩ = some (.int .i64 t) ∧ W.cell? ⟨w.heap.size, 2, none⟩ = some (.slice A n c) ∧ W.cell? ⟨w.heap.size + 1, 0, none⟩ = some (peek W (w.heap.size + 1) 0) ∧ W.cell? ⟨w.heap.size + 1, 1, none⟩ = some (peek W (w.heap.size + 1) 1) ∧ W.cell? ⟨w.heap.size + 1, 2, none⟩ = some (peek W (w.heap.size + 1) 2) ∧ W.frozen? ⟨w.heap.size + 1, 0, none⟩ = false ∧ W.frozen? ⟨w.heap.size + 1, 1, none⟩ = false ∧ W.frozen? ⟨w.heap.size + 1, 2, none⟩ = false) ((refine sof _ ?_; first | exact F2.drew | (go_split_ands; exact Fr.below (by assumption) (by assumption)) | (go_split_ands; exact Fr.alloc (by assumption) _) | assumption | (go_split_ands; exact Fr.set (Fr.set (Fr.set (by assumption) _ _) _ _) _ _))) (first
   | (go_at_call 117; refine (How.out _ (by go_split_ands; assumption)).mono ?_; rintro e w4 ⟨A4, c4, L4, rfl, ro4, sm4, hb4, z4⟩; have F4 : Fr W0 (w.heap.size + 1) 3 w4 := Fr.below (by go_split_ands; assumption) hb4)
   | (go_at_call 98; refine (Hcl.out _ (by go_split_ands; assumption)).mono ?_; rintro e w5 ⟨A5, c5, rfl, ho5, hb5, z5⟩; have F5 : Fr W0 (w.heap.size + 1) 3 w5 := Fr.below (by go_split_ands; assumption) hb5)
   | (refine step_append_any (c := 1) (w := w5.alloc (.cells #[.int .i64 (z + 1), .int .i64 tm, .int .i64 kd, .slice A5 nd c5] 62)) (news := [.int .i64 (z + 1), .int .i64 tm, .int .i64 kd, .slice A5 nd c5]) Tryz.underlying36 ent_elem rfl (by omega) rfl rfl (by simp [Act.eval, Act.put]) ((ro4.below hb5).alloc (.cells #[.int .i64 (z + 1), .int .i64 tm, .int .i64 kd, .slice A5 nd c5] 62)).ow (by simp [Act.eval, Act.put]) (show Rd (w5.alloc (.cells #[.int .i64 (z + 1), .int .i64 tm, .int .i64 kd, .slice A5 nd c5] 62)) T 4 (some ⟨w5.heap.size, 0, none⟩) 1 [.int .i64 (z + 1), .int .i64 tm, .int .i64 kd, .slice A5 nd c5] from Rd.lit4 w5 _ rfl) (by intro u hu; simp only [List.mem_cons, List.not_mem_nil, or_false] at hu; rcases hu with rfl | rfl | rfl | rfl <;> rfl) (by omega) (by have := hb4.size; have := hb5.size; simp at *; omega) rfl rfl ?_; intro A6 c6 w6 hown6 hg6 hat6; have hd6 := add_end (B0 := W0.heap.size) (y := ⟨z + 1, tm, kd, A5, nd, c5, d⟩) ((ro4.below hb5).alloc (.cells #[.int .i64 (z + 1), .int .i64 tm, .int .i64 kd, .slice A5 nd c5] 62)) (((Rd.of_own ho5).alloc _).mono fun q hq => ⟨by have := hb4.size; simp at *; omega, fun e => by have := own_lt ro4.ow q e; omega⟩) (own_cap ho5).1 (own_cap ho5).2 z4 hg6; have F6 : Fr W0 (w.heap.size + 1) 3 w6 := Fr.grown (by go_split_ands; assumption) hg6 (fun g hg => Nat.le_trans z4 (own_lt ro4.ow g hg).1))
   | (refine step_append_any (c := 1) (w := w4.alloc (.cells #[.int .i64 (z + 1), .int .i64 tm, .int .i64 kd, .slice A5 nd c5] 62)) (news := [.int .i64 (z + 1), .int .i64 tm, .int .i64 kd, .slice A5 nd c5]) Tryz.underlying36 ent_elem rfl (by omega) rfl rfl (by simp [Act.eval, Act.put]) (ro4.alloc (.cells #[.int .i64 (z + 1), .int .i64 tm, .int .i64 kd, .slice A5 nd c5] 62)).ow (by simp [Act.eval, Act.put]) (show Rd (w4.alloc (.cells #[.int .i64 (z + 1), .int .i64 tm, .int .i64 kd, .slice A5 nd c5] 62)) T 4 (some ⟨w4.heap.size, 0, none⟩) 1 [.int .i64 (z + 1), .int .i64 tm, .int .i64 kd, .slice A5 nd c5] from Rd.lit4 w4 _ rfl) (by intro u hu; simp only [List.mem_cons, List.not_mem_nil, or_false] at hu; rcases hu with rfl | rfl | rfl | rfl <;> rfl) (by omega) (by have := hb4.size; simp at *; omega) rfl rfl ?_; intro A6 c6 w6 hown6 hg6 hat6; have hd6 := add_end (B0 := W0.heap.size) (y := ⟨z + 1, tm, kd, A5, nd, c5, d⟩) (ro4.alloc (.cells #[.int .i64 (z + 1), .int .i64 tm, .int .i64 kd, .slice A5 nd c5] 62)) (((((Rd.of_own ho5).lt (by omega)).below hb4).alloc _).mono fun q hq => ⟨by have := hq.1; simp at *; omega, fun e => by have := own_lt ro4.ow q e; have := hq.2; omega⟩) (own_cap ho5).1 (own_cap ho5).2 z4 hg6; have F6 : Fr W0 (w.heap.size + 1) 3 w6 := Fr.grown (by go_split_ands; assumption) hg6 (fun g hg => Nat.le_trans z4 (own_lt ro4.ow g hg).1))
   | (refine step_append_any (c := 1) (w := w4) (news := [.int .i64 (z + 1), .int .i64 tm, .int .i64 kd, .slice A5 nd c5]) Tryz.underlying36 ent_elem rfl (by omega) rfl rfl (by simp [Act.eval, Act.put]) ro4.ow (by simp [Act.eval, Act.put]) ((show Rd (w5.alloc (.cells #[.int .i64 (z + 1), .int .i64 tm, .int .i64 kd, .slice A5 nd c5] 62)) T 4 (some ⟨w5.heap.size, 0, none⟩) 1 [.int .i64 (z + 1), .int .i64 tm, .int .i64 kd, .slice A5 nd c5] from Rd.lit4 w5 _ rfl).below hb4) (by intro u hu; simp only [List.mem_cons, List.not_mem_nil, or_false] at hu; rcases hu with rfl | rfl | rfl | rfl <;> rfl) (by omega) hb4.size rfl rfl ?_; intro A6 c6 w6 hown6 hg6 hat6; have hd6 := add_end (B0 := W0.heap.size) (y := ⟨z + 1, tm, kd, A5, nd, c5, d⟩) ro4 ((((((Rd.of_own ho5).lt (by omega)).alloc _).below hb4)).mono fun q hq => ⟨by have := hq.1; simp at *; omega, fun e => by have := own_lt ro4.ow q e; have := hq.2; simp at *; omega⟩) (own_cap ho5).1 (own_cap ho5).2 z4 hg6; have F6 : Fr W0 (w.heap.size + 1) 3 w6 := Fr.grown (by go_split_ands; assumption) hg6 (fun g hg => Nat.le_trans z4 (own_lt ro4.ow g hg).1)))
 all_goals
  have q0 : w6.cell? ⟨w.heap.size + 1, 0, none⟩ = some (peek w6 (w.heap.size + 1) 0) := F6.pk (by omega)
  have q1 : w6.cell? ⟨w.heap.size + 1, 1, none⟩ = some (peek w6 (w.heap.size + 1) 1) := F6.pk (by omega)
  have q2 : w6.cell? ⟨w.heap.size + 1, 2, none⟩ = some (peek w6 (w.heap.size + 1) 2) := F6.pk (by omega)
  have FF := Fr.set (Fr.set (Fr.set F6 0 (.int .i64 b)) 1 (.int .i64 t)) 2 (.slice A6 (n + 1) c6)
  have hz := Hz.out
  go_wp2_with fail
  refine bodyPost_ret (by simp [results, Tryz.results54, go_sem, q0, q1, q2]; rfl) rfl ?_
  have hcap := own_cap hown6
  have hne : ¬ W0.heap.size ≤ w.heap.size + 1 := by omega
  refine ⟨A6, c6, L4 ++ [⟨z + 1, tm, kd, A5, nd, c5, d⟩], rfl, ?_, (((hd6.set (p := ⟨w.heap.size + 1, 0, none⟩) hne _).set (p := ⟨w.heap.size + 1, 1, none⟩) hne _).set (p := ⟨w.heap.size + 1, 2, none⟩) hne _).mono (by omega), ?_, hcap.1, hcap.2, hbe.trans (FF.to_below (B := w.heap.size) (by omega))⟩
  ·rw [flat_append, flat_one]
   exact (((((Rd.of_own hown6).mono (ok' := (W0.heap.size ≤ ·)) fun q hq => Nat.le_trans z4 hq).setCell (p := ⟨w.heap.size + 1, 0, none⟩) hne _).setCell (p := ⟨w.heap.size + 1, 1, none⟩) hne _).setCell (p := ⟨w.heap.size + 1, 2, none⟩) hne _).mono fun q hq => by omega
  ·rw [List.map_append, sm4]
   rfl
end Go.Proofs.YtmhaahcbmdhinaaGreatDoor
