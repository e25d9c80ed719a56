/- Walk of the document's Last.
   Plain law of logs, on.
   Walks of the log's term; of Last, Term.
   Walks: entry.Check; whether something can have been kept: (raft.Stored).may.
   Rows of a call's own that are written over in place.
   Rows of entries of a call's own, with their bytes. -/
import Derived.Test.YtmhaahcbmdhinaaGreatDoorZM5
import Derived.Test.YtmhaahcbmdhinaaGreatDoorZM1
import Derived.Test.YtmhaahcbmdhinaaGreatDoorRows
import Derived.Test.YtmhaahcbmdhinaaGreatDoorZM0
import Derived.Deep.RegionLaw
import Derived.Lib.SliceRun
import Derived.Laws.OwnMore
namespace Go.Proofs.YtmhaahcbmdhinaaGreatDoor
open Go.RowKit
set_option maxRecDepth 100000
set_option linter.unusedVariables false
set_option linter.unusedSimpArgs false
end Go.Proofs.YtmhaahcbmdhinaaGreatDoor
namespace Go.Proofs.YtmhaahcbmdhinaaGreatDoor
set_option linter.unusedVariables false
set_option linter.unusedSimpArgs false
theorem rgt_at {ix : Int} {l : List En} : ∀ {tm : Int} {k : Nat}, rgt ix tm k l = true → ∀ (i : Nat) (e : En), l[i]? = some e → e.a = ix + k + i + 1 ∧ 1 ≤ e.a ∧ e.a ≤ 1099511627776 ∧ 1 ≤ e.b ∧ e.b ≤ 1099511627776 ∧ e.d.length ≤ 4096 := by
 induction l with
 | nil => intro tm k h i e hi; simp at hi
 | cons x l ih =>
  intro tm k h i e hi
  rw [rgt, Bool.and_eq_true] at h
  obtain ⟨h1, h2⟩ := h
  rw [okE_iff] at h1
  cases i with
  | zero =>
   simp at hi
   subst hi
   refine ⟨?_, h1.1, h1.2.2.1, h1.2.2.2.2.1, h1.2.2.2.2.2.1, h1.2.2.2.2.2.2.2.2⟩
   have := h1.2.1
   simp
   omega
  | succ i =>
   have := ih h2 i e (by simpa using hi)
   refine ⟨?_, this.2⟩
   have := this.1
   push_cast at this ⊢
   omega
theorem lmay_iff {b t : Int} {l : List En} : lmay b t l = true ↔ ((b = 0 ∧ t = 0) ∨ (1 ≤ b ∧ b ≤ 1099511627776 ∧ 1 ≤ t ∧ t ≤ 1099511627776)) ∧ l.length ≤ 4096 ∧ rgt b t 0 l = true := by
 unfold lmay
 simp only [Bool.and_eq_true, Bool.or_eq_true, decide_eq_true_eq, and_assoc]
theorem lmay_at {b t : Int} {l : List En} (h : lmay b t l = true) {i : Nat} {e : En} (hi : l[i]? = some e) : e.a = b + i + 1 ∧ 1 ≤ e.a ∧ e.a ≤ 1099511627776 ∧ 1 ≤ e.b ∧ e.b ≤ 1099511627776 ∧ e.d.length ≤ 4096 := by
 have := rgt_at (lmay_iff.1 h).2.2 i e hi
 simpa using this
theorem lmay_last {b t : Int} {l : List En} (h : lmay b t l = true) : lstA b l = b + l.length := by
 by_cases h0 : l.length = 0
 ·rw [List.eq_nil_of_length_eq_zero h0]
  simp [lstA]
 ·obtain ⟨e, he, ha, _⟩ := lstA_len (b := b) (l := l) (by omega)
  rw [ha, (lmay_at h he).1]
  omega
def termL (b t : Int) (l : List En) (ix : Int) : Int × Int := if lstA b l < ix ∨ ix < 0 then (8, 0) else if ix < b then (22, 0) else if ix = b then (0, t) else (0, (l[(ix - b - 1).toNat]?.map (·.b)).getD 0)
end Go.Proofs.YtmhaahcbmdhinaaGreatDoor
namespace Go.Proofs.YtmhaahcbmdhinaaGreatDoor
open Go.RowKit
set_option maxRecDepth 100000
set_option linter.unusedVariables false
set_option linter.unusedSimpArgs false
def errC (k : Int) : Value := if k = 0 then .nilIface else .iface 105 (.int .i64 k)
def TermPost (W : World) (r : Int × Int) (e : Ending) (w' : World) : Prop := e = .returned (.tuple #[.int .i64 r.2, errC r.1]) ∧ Below W.heap.size W w'
set_option maxHeartbeats 1600000 in
theorem term_any (b t ix : Int) (A : Option Addr) (n c : Nat) (L : List Er) (w : World) {ok : Nat → Prop} (hr : Rd w ok 4 A n (flat ecell L)) (hm : lmay b t (L.map en) = true) (hn : n ≤ 1000000) :
  Calls Tryz.prog 158 #[.agg #[.int .i64 b, .int .i64 t, .slice A n c], .int .i64 ix] w (TermPost w (termL b t (L.map en) ix)) := by
 have hll := hr.flen ecell_len (by omega)
 have hl := fun ob => last_any b t A n c L (w.alloc ob) (hr.alloc ob) hn
 have hz := lmay_last hm
 have hbb := (lmay_iff.1 hm).1
 rw [List.length_map, hll] at hz
 obtain ⟨R, hR⟩ : ∃ R, termL b t (L.map en) ix = R := ⟨_, rfl⟩
 rw [hR]
 unfold termL at hR
 generalize lstB t (L.map en) = y at hl
 generalize lstA b (L.map en) = z at hl hz hR
 have Bb := Lib.hid (Bx.new w #[.int .i64 b, .int .i64 t, .slice A n c] 38 rfl)
 have Hl := Lib.hid hl
 have Hz := Lib.hid hz
 have Hr := Lib.hid hr
 have Hm := Lib.hid hm
 clear hl hz hr hm
 by_cases h1 : z < ix
 ·rw [if_pos (.inl h1)] at hR
  have HR := Lib.hid hR
  clear hR
  go_enter Tryz.func158, Tryz.ntmps158
  go_wp2_with fail
  refine (Hl.out _).mono ?_
  rintro e w2 ⟨rfl, hb2⟩
  obtain ⟨k0, k1, k2, -⟩ := (Bb.out.below hb2).c3
  have hb3 := ((Below.refl w.heap.size w).alloc (Nat.le_refl _) (.cells #[.int .i64 b, .int .i64 t, .slice A n c] 38)).trans (hb2.mono (by simp))
  clear hb2
  go_wp2_with fail
  go_ret2
  exact ⟨by rw [← HR.out]; rfl, hb3⟩
 ·have h1d : decide (z < ix) = false := decide_eq_false h1
  by_cases h2 : ix < 0
  ·rw [if_pos (.inr h2)] at hR
   have HR := Lib.hid hR
   clear hR
   go_enter Tryz.func158, Tryz.ntmps158
   go_wp2_with fail
   refine (Hl.out _).mono ?_
   rintro e w2 ⟨rfl, hb2⟩
   obtain ⟨k0, k1, k2, -⟩ := (Bb.out.below hb2).c3
   have hb3 := ((Below.refl w.heap.size w).alloc (Nat.le_refl _) (.cells #[.int .i64 b, .int .i64 t, .slice A n c] 38)).trans (hb2.mono (by simp))
   clear hb2
   go_wp2_with fail
   go_ret2
   exact ⟨by rw [← HR.out]; rfl, hb3⟩
  ·have h2d : decide (ix < 0) = false := decide_eq_false h2
   rw [if_neg (by omega)] at hR
   by_cases h3 : ix < b
   ·rw [if_pos h3] at hR
    have HR := Lib.hid hR
    clear hR
    go_enter Tryz.func158, Tryz.ntmps158
    go_wp2_with fail
    refine (Hl.out _).mono ?_
    rintro e w2 ⟨rfl, hb2⟩
    obtain ⟨k0, k1, k2, -⟩ := (Bb.out.below hb2).c3
    have hb3 := ((Below.refl w.heap.size w).alloc (Nat.le_refl _) (.cells #[.int .i64 b, .int .i64 t, .slice A n c] 38)).trans (hb2.mono (by simp))
    clear hb2
    go_wp2_with fail
    go_ret2
    exact ⟨by rw [← HR.out]; rfl, hb3⟩
   ·have h3d : decide (ix < b) = false := decide_eq_false h3
    rw [if_neg h3] at hR
    by_cases h4 : ix = b
    ·rw [if_pos h4] at hR
     subst h4
     have HR := Lib.hid hR
     clear hR
     go_enter Tryz.func158, Tryz.ntmps158
     go_wp2_with fail
     refine (Hl.out _).mono ?_
     rintro e w2 ⟨rfl, hb2⟩
     obtain ⟨k0, k1, k2, -⟩ := (Bb.out.below hb2).c3
     have hb3 := ((Below.refl w.heap.size w).alloc (Nat.le_refl _) (.cells #[.int .i64 ix, .int .i64 t, .slice A n c] 38)).trans (hb2.mono (by simp))
     clear hb2
     go_wp2_with fail
     go_ret2
     exact ⟨by rw [← HR.out]; rfl, hb3⟩
    ·have h4d : (ix == b) = false := by simpa using h4
     rw [if_neg h4] at hR
     obtain ⟨m, hm1⟩ : ∃ m : Nat, ix - b - 1 = (m : Int) := ⟨(ix - b - 1).toNat, by omega⟩
     have hmn : m < n := by have := Hz.out; omega
     have w1 : IntKind.i64.wrap (ix - b) = ix - b := by rw [IntKind.wrap_i64]; have := Hz.out; omega
     have w2 : IntKind.i64.wrap (ix - b - 1) = (m : Int) := by rw [IntKind.wrap_i64]; have := Hz.out; omega
     obtain ⟨bk, o, x, rfl, _, hbl, hx, c0, c1, c2, c3⟩ := er_cells Hr.out hmn
     have htn : (ix - b - 1).toNat = m := by omega
     rw [htn, List.getElem?_map, hx] at hR
     have hmI : (m : Int) < n := by omega
     have hm0 : (0 : Int) ≤ m := by omega
     have HR := Lib.hid hR
     have C1 := Lib.hid c1
     clear hR hm1 htn c0 c1 c2 c3 hx
     go_enter Tryz.func158, Tryz.ntmps158
     go_wp2_with fail
     refine (Hl.out _).mono ?_
     rintro e w2 ⟨rfl, hb2⟩
     obtain ⟨k0, k1, k2, -⟩ := (Bb.out.below hb2).c3
     have hb3 := ((Below.refl w.heap.size w).alloc (Nat.le_refl _) (.cells #[.int .i64 b, .int .i64 t, .slice (some ⟨bk, o, none⟩) n c] 38)).trans (hb2.mono (by simp))
     clear hb2
     have k3 : w2.cell? ⟨bk, o + m * 4 + 1, none⟩ = some (.int .i64 x.b) := (hb3.cell (p := ⟨bk, o + m * 4 + 1, none⟩) hbl).trans C1.out
     go_wp2_with fail
     go_ret2
     exact ⟨by rw [← HR.out]; rfl, hb3⟩
theorem Last_any (b t : Int) (A : Option Addr) (n c : Nat) (L : List Er) (w : World) {ok : Nat → Prop} (hr : Rd w ok 4 A n (flat ecell L)) (hw : Wel L) (hm : lmay b t (L.map en) = true) (hn : n ≤ 1000000) :
  Calls Tryz.prog 26 #[.agg #[.int .i64 b, .int .i64 t, .slice A n c]] w (TwoInt w (lstA b (L.map en)) (lstB t (L.map en))) := by
 have hmm := fun ob => may_any b t A n c L (w.alloc ob) (hr.alloc ob) hw hn
 have hl := fun W (hb : Below w.heap.size w W) => last_any b t A n c L W (hr.below hb) hn
 rw [hm] at hmm
 generalize lstA b (L.map en) = x at hl
 generalize lstB t (L.map en) = y at hl
 have Bb := Lib.hid (Bx.new w #[.int .i64 b, .int .i64 t, .slice A n c] 38 rfl)
 have Hmm := Lib.hid hmm
 have Hl := Lib.hid hl
 clear hmm hl hr hw hm
 go_enter Tryz.func26, Tryz.ntmps26
 go_wp2_with fail
 refine (Hmm.out _).mono ?_
 rintro e w2 ⟨rfl, hb2⟩
 obtain ⟨k0, k1, k2, -⟩ := (Bb.out.below hb2).c3
 have hb3 := ((Below.refl w.heap.size w).alloc (Nat.le_refl _) (.cells #[.int .i64 b, .int .i64 t, .slice A n c] 38)).trans (hb2.mono (by simp))
 clear hb2
 go_wp2_with fail
 refine (Hl.out _ hb3).mono ?_
 rintro e w3 ⟨rfl, hb4⟩
 go_wp2_with fail
 go_ret2
 exact ⟨rfl, hb3.trans (hb4.mono hb3.size)⟩
theorem Bx.c7 {W : World} {g : Nat} {a b c d e f h : Value} (hx : Bx W g #[a, b, c, d, e, f, h]) : W.cell? ⟨g, 0, none⟩ = some a ∧ W.cell? ⟨g, 1, none⟩ = some b ∧ W.cell? ⟨g, 2, none⟩ = some c ∧ W.cell? ⟨g, 3, none⟩ = some d ∧ W.cell? ⟨g, 4, none⟩ = some e ∧ W.cell? ⟨g, 5, none⟩ = some f ∧ W.cell? ⟨g, 6, none⟩ = some h :=
 ⟨hx.c 0, hx.c 1, hx.c 2, hx.c 3, hx.c 4, hx.c 5, hx.c 6⟩
theorem echk_any (b t : Int) (A : Option Addr) (n c : Nat) (L : List Er) (w : World) {ok : Nat → Prop} (hr : Rd w ok 4 A n (flat ecell L)) (hw : Wel L) (hn : n ≤ 1000000) :
  Calls Tryz.prog 93 #[.agg #[.int .i64 b, .int .i64 t, .slice A n c]] w fun e w' => e = .returned (if lmay b t (L.map en) then .nilIface else .iface 105 (.int .i64 1)) ∧ Below w.heap.size w w' := by
 have hm := fun W (hW : Below w.heap.size w W) => may_any b t A n c L W (hr.below hW) hw hn
 generalize lmay b t (L.map en) = q at hm ⊢
 have Hm := Lib.hid hm
 clear hm hr hw
 rcases q with _ | _
 all_goals
  go_enter Tryz.func93, Tryz.ntmps93
  go_wp2_with fail
  refine (Hm.out _ ((Below.refl _ _).alloc (Nat.le_refl _) _)).mono ?_
  rintro e w1 ⟨rfl, hb1⟩
  have hb2 := ((Below.refl w.heap.size w).alloc (Nat.le_refl _) (.cells #[.int .i64 b, .int .i64 t, .slice A n c] 38)).trans (hb1.mono (by simp))
  have Hb2 := Lib.hid hb2
  clear hb1 hb2
  go_wp2_with fail
  go_ret
  exact ⟨rfl, Hb2.out⟩
def smay (tm vt b t : Int) (L : List Er) (cf : List Int) : Bool :=
 lmay b t (L.map en) && cmay cf && rdok L && decide (lstB t (L.map en) ≤ tm) && decide (tm ≤ 1099511627776) && decide (0 ≤ vt) && decide (vt ≤ 64)
abbrev stA (tm vt b t : Int) (A : Option Addr) (n c : Nat) (C : Option Addr) (nc cc : Nat) (S : Option Addr) (ns cs : Nat) : Value :=
 .agg #[.int .i64 tm, .int .i64 vt, .int .i64 b, .int .i64 t, .slice A n c, .slice C nc cc, .slice S ns cs]
set_option maxHeartbeats 3200000 in
theorem smay_any (tm vt b t : Int) (A : Option Addr) (n c : Nat) (L : List Er) (C : Option Addr) (nc cc : Nat) (cf : List Int) (S : Option Addr) (ns cs : Nat) (w : World)
  (hr : Rd w T 4 A n (flat ecell L)) (hd : Dat w L) (hw : Wel L) (hn : n ≤ 1000000) (hc : Rd w T 1 C nc (ii cf)) (hnc : nc ≤ 1000000) (hev : EvW w w.heap.size) :
  Calls Tryz.prog 36 #[stA tm vt b t A n c C nc cc S ns cs] w (BoolPost w (smay tm vt b t L cf)) := by
 obtain ⟨W0, hW0⟩ : ∃ W0, W0 = w.alloc (.cells #[.int .i64 tm, .int .i64 vt, .int .i64 b, .int .i64 t, .slice A n c, .slice C nc cc, .slice S ns cs] 41) := ⟨_, rfl⟩
 have b0 : Bx W0 w.heap.size #[.int .i64 tm, .int .i64 vt, .int .i64 b, .int .i64 t, .slice A n c, .slice C nc cc, .slice S ns cs] := by subst hW0; exact Bx.new _ _ _ rfl
 have hbe : Below w.heap.size w W0 := by subst hW0; exact (Below.refl _ _).alloc (Nat.le_refl _) _
 have hz : w.heap.size ≤ W0.heap.size := hbe.size
 have hck := echk_any b t A n c L W0 (hr.below hbe) hw hn
 have hcc := fun W (h : Below W0.heap.size W0 W) => chk_any C nc cc cf W ((hc.below hbe).below h) hnc
 have hrd := fun W (h : Below W0.heap.size W0 W) => read_ok A n c L W ((hr.below hbe).below h) ((hd.below hbe).below h) hn (((hev.below hbe (Nat.le_refl _)).below h hz).mono (Nat.le_trans hz h.size))
 have hla := fun W (h : Below W0.heap.size W0 W) (hm : lmay b t (L.map en) = true) => Last_any b t A n c L W ((hr.below hbe).below h) hw hm hn
 obtain ⟨q, hq⟩ : ∃ q, lmay b t (L.map en) = q := ⟨_, rfl⟩
 obtain ⟨y, hy⟩ : ∃ y, lstB t (L.map en) = y := ⟨_, rfl⟩
 have hS : smay tm vt b t L cf = (q && cmay cf && rdok L && decide (y ≤ tm) && decide (tm ≤ 1099511627776) && decide (0 ≤ vt) && decide (vt ≤ 64)) := by unfold smay; rw [hq, hy]
 rw [hq] at hck hla
 rw [hy] at hla
 generalize lstA b (L.map en) = x at hla
 rw [hS]
 generalize cmay cf = p at hcc
 generalize rdok L = r at hrd
 obtain ⟨c0, c1, c2, c3, c4, c5, c6⟩ := b0.c7
 have HW := Lib.hid hW0
 have B := Lib.hid (And.intro b0 hbe)
 have Hck := Lib.hid hck
 have Hcc := Lib.hid hcc
 have Hrd := Lib.hid hrd
 have Hla := Lib.hid hla
 clear hW0 b0 hbe hz hck hcc hrd hla hr hd hw hc hev hS hq hy
 unfold stA
 go_enter Tryz.func36, Tryz.ntmps36
 go_upto_region 1 with (fail)
 rw [← HW.out]
 cases q
 ·go_wp2_with fail
  refine Hck.out.mono ?_
  rintro e w1 ⟨rfl, hb1⟩
  have Hb1 := Lib.hid (B.out.2.trans (hb1.mono B.out.2.size))
  clear hb1 c0 c1 c2 c3 c4 c5 c6
  go_wp2_with fail
  go_ret
  exact ⟨ret_bool (by simp), Hb1.out⟩
 go_wp2_with fail
 refine Hck.out.mono ?_
 rintro e w1 ⟨rfl, hb1⟩
 have K1 := Lib.hid hb1
 clear c0 c1 c2 c3 c4 c5 c6
 obtain ⟨c0, c1, c2, c3, c4, c5, c6⟩ := (B.out.1.below hb1).c7
 clear hb1
 go_wp2_with fail
 refine (Hcc.out w1 K1.out).mono ?_
 rintro e w2 ⟨rfl, rfl⟩
 cases p
 ·go_wp2_with fail
  go_ret
  exact ⟨ret_bool (by simp), B.out.2.trans (K1.out.mono B.out.2.size)⟩
 go_wp2_with fail
 refine (Hrd.out _ K1.out).mono ?_
 rintro e w3 ⟨rfl, hb3⟩
 have K3 := Lib.hid (K1.out.trans (hb3.mono K1.out.size))
 clear c0 c1 c2 c3 c4 c5 c6 hb3
 obtain ⟨c0, c1, c2, c3, c4, c5, c6⟩ := (B.out.1.below K3.out).c7
 cases r
 ·go_wp2_with fail
  go_ret
  exact ⟨ret_bool (by simp), B.out.2.trans (K3.out.mono B.out.2.size)⟩
 go_wp2_with fail
 refine (Hla.out _ K3.out (by trivial)).mono ?_
 rintro e w4 ⟨rfl, hb4⟩
 have K4 := Lib.hid (K3.out.trans (hb4.mono K3.out.size))
 clear c0 c1 c2 c3 c4 c5 c6 hb4
 obtain ⟨c0, c1, c2, c3, c4, c5, c6⟩ := (B.out.1.below K4.out).c7
 have F := Lib.hid (B.out.2.trans (K4.out.mono B.out.2.size))
 by_cases h1 : y ≤ tm
 ·by_cases h2 : tm ≤ 1099511627776
  ·by_cases h3 : 0 ≤ vt
   ·by_cases h4 : vt ≤ 64
    ·have H := Lib.hid (show (true && true && true && decide (y ≤ tm) && decide (tm ≤ 1099511627776) && decide (0 ≤ vt) && decide (vt ≤ 64)) = true by simp [h1, h2, h3, h4])
     go_wp2_with fail
     go_ret
     exact ⟨ret_bool (by rw [H.out]), F.out⟩
    ·have H := Lib.hid (show (true && true && true && decide (y ≤ tm) && decide (tm ≤ 1099511627776) && decide (0 ≤ vt) && decide (vt ≤ 64)) = false by simp [h4])
     have h4d : decide (vt ≤ 64) = false := decide_eq_false h4
     go_wp2_with fail
     go_ret
     exact ⟨ret_bool (by rw [H.out]), F.out⟩
   ·have H := Lib.hid (show (true && true && true && decide (y ≤ tm) && decide (tm ≤ 1099511627776) && decide (0 ≤ vt) && decide (vt ≤ 64)) = false by simp [h3])
    have h3d : decide (0 ≤ vt) = false := decide_eq_false h3
    go_wp2_with fail
    go_ret
    exact ⟨ret_bool (by rw [H.out]), F.out⟩
  ·have H := Lib.hid (show (true && true && true && decide (y ≤ tm) && decide (tm ≤ 1099511627776) && decide (0 ≤ vt) && decide (vt ≤ 64)) = false by simp [h2])
   have h2d : decide (tm ≤ 1099511627776) = false := decide_eq_false h2
   go_wp2_with fail
   go_ret
   exact ⟨ret_bool (by rw [H.out]), F.out⟩
 ·have H := Lib.hid (show (true && true && true && decide (y ≤ tm) && decide (tm ≤ 1099511627776) && decide (0 ≤ vt) && decide (vt ≤ 64)) = false by simp [h1])
  have h1d : decide (y ≤ tm) = false := decide_eq_false h1
  go_wp2_with fail
  go_ret
  exact ⟨ret_bool (by rw [H.out]), F.out⟩
end Go.Proofs.YtmhaahcbmdhinaaGreatDoor
namespace Go.Proofs.YtmhaahcbmdhinaaGreatDoor
open Go.RowKit
set_option linter.unusedVariables false
set_option linter.unusedSimpArgs false
set_option maxRecDepth 100000
def lays (xs : List Value) (o : Nat) (vs : List Value) : List Value := match vs with
 | [] => xs
 | v :: vs => lays (xs.set o v) (o + 1) vs
theorem lays_length (vs : List Value) : ∀ (xs : List Value) (o : Nat), (lays xs o vs).length = xs.length := by
 induction vs with
 | nil => intro xs o; rfl
 | cons v vs ih => intro xs o; rw [lays, ih, List.length_set]
theorem lays_take (vs : List Value) : ∀ (xs : List Value) (o k : Nat), k ≤ o → (lays xs o vs).take k = xs.take k := by
 induction vs with
 | nil => intro xs o k _; rfl
 | cons v vs ih =>
  intro xs o k hk
  rw [lays, ih _ _ _ (by omega), List.take_set_of_le hk]
theorem lays_eq (vs : List Value) : ∀ (xs : List Value) (o : Nat), o + vs.length ≤ xs.length → lays xs o vs = xs.take o ++ vs ++ xs.drop (o + vs.length) := by
 induction vs with
 | nil => intro xs o _; simp [lays]
 | cons v vs ih =>
  intro xs o h
  simp only [List.length_cons] at h
  rw [lays, ih _ _ (by rw [List.length_set]; omega), List.take_add_one, List.take_set_of_le (Nat.le_refl _), List.getElem?_set_self (by omega)]
  rw [List.drop_set_of_lt (by omega)]
  simp only [Option.toList_some, List.append_assoc, List.cons_append, List.nil_append, List.length_cons]
  rw [show o + 1 + vs.length = o + (vs.length + 1) by omega]
theorem own_setCells {w : World} {B : Nat} {e : TypeId} {size g n c : Nat} {xs : List Value} (vs : List Value) : ∀ (w : World) (xs : List Value) (o : Nat), w.ownsRow B e size (.slice (some ⟨g, 0, none⟩) n c) n xs → (w.setCells g o vs).ownsRow B e size (.slice (some ⟨g, 0, none⟩) n c) n (lays xs o vs) ∧ w.grownBy (w.setCells g o vs) (some g) := by
 induction vs with
 | nil => intro w xs o h; exact ⟨h, World.grownBy.refl _ _⟩
 | cons v vs ih =>
  intro w xs o h
  have h1 := h.stored o v
  have h2 := ih _ _ (o + 1) h1.1
  refine ⟨h2.1, ?_⟩
  exact ⟨h2.2.os.trans h1.2.os, h2.2.tape.trans h1.2.tape, h2.2.output.trans h1.2.output, Nat.le_trans h1.2.size h2.2.size, fun k hk hne => (h2.2.block k (Nat.lt_of_lt_of_le hk h1.2.size) hne).trans (h1.2.block k hk hne)⟩
theorem own_take {w : World} {B : Nat} {e : TypeId} {size g n c m : Nat} {xs : List Value} (h : w.ownsRow B e size (.slice (some ⟨g, 0, none⟩) n c) n xs) (hm : m ≤ n) : w.ownsRow B e size (.slice (some ⟨g, 0, none⟩) m c) m (xs.take (m * size)) := by
 have hle := Nat.mul_le_mul_right size hm
 refine ⟨by rw [List.length_take, h.1]; omega, ?_⟩
 rcases h.2 with ⟨h', _⟩ | ⟨g', cap', cur, h', hb, hg, hnc, hcm, hcs, htake⟩
 ·simp at h'
 ·simp only [Value.slice.injEq, Option.some.injEq, Addr.mk.injEq, and_true, true_and] at h'
  obtain ⟨rfl, rfl⟩ := h'
  refine .inr ⟨g, c, cur, rfl, hb, hg, by omega, hcm, hcs, ?_⟩
  rw [← htake, List.take_take]
  congr 1
  omega
theorem own_isSome {w : World} {B : Nat} {e : TypeId} {size g n c : Nat} {xs : List Value} (h : w.ownsRow B e size (.slice (some ⟨g, 0, none⟩) n c) n xs) (j : Nat) (hj : j < c * size) : (w.cell? ⟨g, j, none⟩).isSome = true := by
 rcases h.2 with ⟨h', _⟩ | ⟨g', cap', cur, h', hb, hg, hnc, hcm, hcs, htake⟩
 ·simp at h'
 ·simp only [Value.slice.injEq, Option.some.injEq, Addr.mk.injEq, and_true, true_and] at h'
  obtain ⟨rfl, rfl⟩ := h'
  rw [cell_of_row w g j cur e (0, 0) hg]
  have : j < cur.size := by omega
  simp [this]
theorem run_clear_one {P : Program} (w : World) (t e ty : TypeId) (z : Value) (vs : List Value) (ht : P.underlying t = some (.slice e)) (hv : ∀ w, (zeroValue e).run P w = .ok z w) (hz : (Builtin.zeroCells z.cells 1).toList = vs) (h1 : ∀ v ∈ vs, v.oneCell' = true) (b o c : Nat)
  (hc : ∀ j, j < vs.length → (w.cell? ⟨b, o + j, none⟩).isSome = true) (hf : ∀ j, j < vs.length → w.frozen? ⟨b, o + j, none⟩ = false) :
  (Builtin.clear_ #[t] ty #[.slice (some ⟨b, o, none⟩) 1 c]).run P w = .ok (.tuple #[]) (w.setCells b o vs) := by
 have hst := run_storeCells_cells (P := P) b o vs 0 w (by simpa using hc) (by simpa using hf) h1
 simp only [Nat.add_zero] at hst
 simp [Builtin.clear_, run_underlying ht, hv, hz, hst]
end Go.Proofs.YtmhaahcbmdhinaaGreatDoor
namespace Go.Proofs.YtmhaahcbmdhinaaGreatDoor
open Go.RowKit
set_option maxRecDepth 100000
set_option linter.unusedVariables false
set_option linter.unusedSimpArgs false
theorem ent_elem : Elem Tryz.prog 62 (.agg #[.int .i64 0, .int .i64 0, .int .i64 0, .slice none 0 0]) 4 48 := by unfold Elem; kernel_rfl
theorem Rd.lit4 (w : World) {cs : Array Value} (t : TypeId) {fr : Nat × Nat} (hk : cs.size = 4) : Rd (w.alloc (.cells cs t fr)) T 4 (some ⟨w.heap.size, 0, none⟩) 1 cs.toList :=
 ⟨by simp [hk], fun _ => ⟨_, rfl, trivial, fun j u hu => World.news_of_block (heap_alloc_new w _) j u hu⟩⟩
def DatO (w : World) (B : Nat) (A : Option Addr) (l : List Er) : Prop := ∀ y ∈ l, Rd w (fun b => B ≤ b ∧ A.map (·.block) ≠ some b) 1 y.A y.n (bs y.d) ∧ y.n ≤ y.m ∧ y.m ≤ maxLen
structure Ro (W : World) (B : Nat) (A : Option Addr) (n c : Nat) (l : List Er) : Prop where
 ow : W.ownsRow B 62 4 (.slice A n c) n (flat ecell l)
 dt : DatO W B A l
section
variable {W W' : World} {B n c : Nat} {A : Option Addr} {l : List Er}
theorem Ro.nil (W : World) (B : Nat) : Ro W B none 0 0 [] := ⟨World.ownsRow_nil _ _ _ _, by intro y hy; cases hy⟩
theorem Ro.below (h : Ro W B A n c l) (hb : Below W.heap.size W W') : Ro W' B A n c l := ⟨own_below h.ow hb, fun y hy => ⟨(h.dt y hy).1.below hb, (h.dt y hy).2⟩⟩
theorem Ro.alloc (h : Ro W B A n c l) (o : Obj) : Ro (W.alloc o) B A n c l := h.below ((Below.refl _ _).alloc (Nat.le_refl _) o)
theorem Ro.dat_from (h : Ro W B A n c l) : ∀ y ∈ l, Rd W (B ≤ ·) 1 y.A y.n (bs y.d) ∧ y.n ≤ y.m ∧ y.m ≤ maxLen := fun y hy => ⟨(h.dt y hy).1.mono fun b hb => hb.1, (h.dt y hy).2⟩
theorem Ro.push {y : Er} {k c2 : Nat} {A2 : Option Addr} {W2 : World} (h : Ro W B A n c l) (hy : Rd W (fun b => B ≤ b ∧ A.map (·.block) ≠ some b) 1 y.A y.n (bs y.d)) (hy1 : y.n ≤ y.m) (hy2 : y.m ≤ maxLen)
  (hk : k = n + 1) (ho : W2.ownsRow B 62 4 (.slice A2 k c2) k (flat ecell l ++ ecell y)) (hg : W.grownBy W2 (A.map (·.block))) (hat : A2.map (·.block) = A.map (·.block) ∨ A2.map (·.block) = some W.heap.size) :
  Ro W2 B A2 (n + 1) c2 (l ++ [y]) := by
 subst hk
 refine ⟨by rw [flat_append, flat_one]; exact ho, fun z hz => ?_⟩
 have hz' : Rd W (fun b => B ≤ b ∧ A.map (·.block) ≠ some b) 1 z.A z.n (bs z.d) ∧ z.n ≤ z.m ∧ z.m ≤ maxLen := by
  rcases List.mem_append.1 hz with hz | hz
  ·exact h.dt z hz
  ·obtain rfl := List.mem_singleton.1 hz
   exact ⟨hy, hy1, hy2⟩
 refine ⟨?_, hz'.2⟩
 have h1 := (hz'.1.lt (by omega)).grown hg (fun g hg' h2 => h2.1.2 hg')
 refine h1.mono fun b hb => ?_
 refine ⟨hb.1.1, ?_⟩
 rcases hat with e | e
 ·rw [e]; exact hb.1.2
 ·rw [e]; intro e2; injection e2 with e2; omega
end
end Go.Proofs.YtmhaahcbmdhinaaGreatDoor
