/- Slices of byte slices: cells, and what comes in.
   What is kept fits where its copy does (cut out of lib's Kp2 by mk13.py).
   Walk: tollbarlaw13.RaftAlone. (Printed by mkc22.py.)
   The one listed variable, errors.errorType: what the row's list gives a walk, and a world that meets it (after the kit's worked text ToyasProofs).
   The listed variables: three tables of the library's, and (in some rows) errors.errorType: what the rows' lists give a walk, and a world that meets them. -/
import Derived.Test.YtmhaahcbmdhinaaGreatDoorK1
import Derived.Test.YtmhaahcbmdhinaaGreatDoorK10
import Derived.Test.YtmhaahcbmdhinaaGreatDoorK28
import Derived.Test.YtmhaahcbmdhinaaGreatDoorK23
import Derived.Test.YtmhaahcbmdhinaaGreatDoorRows
import Derived.ChangeSame
import Derived.ChangeVars
import Derived.JoinedOf
import Derived.RowKit
import Derived.RowKitTokens
import Derived.LaidLaws
import Derived.LaidHandle
import Derived.Stop.Joined
import Derived.Test.YtmhaahcbmdhinaaGreatDoorK2
import Derived.Deep.DeepLaidRun
import Derived.Stop.LaidErr
namespace Go.Proofs.YtmhaahcbmdhinaaGreatDoor
open Go.ChangeShapes Go.WideShapes Go.ChangeAt Go.RowKit Go.Joins Go.Deep
set_option linter.unusedVariables false
set_option linter.unusedSimpArgs false
/-- Bytes that lie elsewhere. -/
structure Br where
  A : Option Addr
  n : Nat
  m : Nat
  d : List UInt8
def brcell (x : Br) : List Value := [.slice x.A x.n x.m]
theorem brcell_len (x : Br) : (brcell x).length = 1 := rfl
theorem br_cells {w : World} {ok : Nat → Prop} {n : Nat} {A : Option Addr} {l : List Br} (h : Rd w ok 1 A n (flat brcell l)) {j : Nat} (hj : j < n) : ∃ b o x, A = some ⟨b, o, none⟩ ∧ ok b ∧ b < w.heap.size ∧ l[j]? = some x ∧ w.cell? ⟨b, o + j, none⟩ = some (.slice x.A x.n x.m) := by
  obtain ⟨b, o, x, hA, hb, hlt, hx, hc⟩ := h.fat brcell_len (by omega) hj
  have := hc 0 _ rfl
  rw [Nat.mul_one, Nat.add_zero] at this
  exact ⟨b, o, x, hA, hb, hlt, hx, this⟩
def BDat (w : World) (l : List Br) : Prop := ∀ x ∈ l, Rd w T 1 x.A x.n (bs x.d) ∧ x.n ≤ x.m ∧ x.m ≤ maxLen
theorem in_brows {H : Type} {enc : TypeId × Value → H} {P : Program} {w : World} {base : Nat} {spare : Nat → Bool} {held : Bool} {fuel : Nat} {v : Value} {x : DataW H × List MemPlace} {t e e3 : TypeId}
    (ht : P.underlying t = some (.slice e)) (he : P.underlying e = some (.slice e3)) (hC : P.cellsOf e = 1) (h4 : P.underlying e3 = some (.int .u8)) (h5 : P.cellsOf e3 = 1)
    (h : DataW.trod enc P w base spare held fuel t [v] = some x) :
    ∃ A n c, ∃ L : List Br, v = .slice A n c ∧ Rd w T 1 A n (flat brcell L) ∧ L.length = n ∧ n ≤ c ∧ c ≤ maxLen ∧ BDat w L := by
  rcases open_slice ht h with ⟨hcs, _⟩ | ⟨a, len, cap, m, n', D, Pl, hcs, _, hl, hm, hmm, hx, hi⟩
  · refine ⟨none, 0, 0, [], by simpa using hcs, Rd.none_, rfl, Nat.le_refl _, by simp [maxLen], fun y hy => by cases hy⟩
  · have key : ∀ i, i < len → ∃ y : Br, (Rd w T 1 y.A y.n (bs y.d) ∧ y.n ≤ y.m ∧ y.m ≤ maxLen) ∧ w.cell? (a.add i) = some (.slice y.A y.n y.m) := by
      intro i hil
      obtain ⟨cs', hc, ht'⟩ := hi i (by rw [hmm]; split <;> omega)
      rw [hC, Nat.mul_one] at hc
      obtain ⟨_, hcl, hat⟩ := World.cells?_some hc
      obtain ⟨u, rfl⟩ : ∃ u, cs' = [u] := by
        match cs', hcl with
        | [u], _ => exact ⟨u, rfl⟩
      have h0 := hat 0 (by omega)
      have e0 : (a.add i).add 0 = a.add i := rfl
      rw [e0] at h0
      obtain ⟨B, k, c, l, rfl, hr, h1, h2, _⟩ := in_bytes he h4 h5 ht'
      exact ⟨⟨B, k, c, l⟩, ⟨hr, h1, h2⟩, h0⟩
    by_cases hlen : len = 0
    · subst hlen
      exact ⟨some a, 0, cap, [], by simpa using hcs, ⟨by simp [flat], fun h => by omega⟩, rfl, by omega, hm, fun y hy => by cases hy⟩
    · have hspot : a.spot = none := by
        obtain ⟨y0, _, hc⟩ := key 0 (by omega)
        obtain ⟨b, o, sp⟩ := a
        exact World.cell?_spot hc
      obtain ⟨b, o, sp⟩ := a
      dsimp only at hspot
      subst hspot
      have hadd : ∀ k, (⟨b, o, none⟩ : Addr).add k = ⟨b, o + k, none⟩ := fun k => by unfold Addr.add; split <;> simp_all
      obtain ⟨L, k1, k2, k3⟩ := rd_of_rows (A := some ⟨b, o, none⟩) (n := len) (w := w) brcell_len (by omega) (fun y => Rd w T 1 y.A y.n (bs y.d) ∧ y.n ≤ y.m ∧ y.m ≤ maxLen) (by
        intro i hi
        obtain ⟨y, hy, hc⟩ := key i hi
        refine ⟨y, hy, b, o, rfl, fun j u hj => ?_⟩
        rw [hadd] at hc
        match j, hj with
        | 0, hj =>
          obtain rfl := Option.some.inj hj
          rw [Nat.mul_one]
          exact hc)
      exact ⟨some ⟨b, o, none⟩, len, cap, L, by simpa using hcs, k1, k2, hl, hm, k3⟩
end Go.Proofs.YtmhaahcbmdhinaaGreatDoor
namespace Go.Proofs.YtmhaahcbmdhinaaGreatDoor
open Go.RowKit
set_option linter.unusedVariables false
set_option linter.unusedSimpArgs false
theorem en_iff {x y : Er} : en x = en y ↔ x.a = y.a ∧ x.b = y.b ∧ x.c = y.c ∧ x.d = y.d := by
  unfold en
  constructor
  · intro h; injection h with h1 h2 h3 h4; exact ⟨h1, h2, h3, h4⟩
  · rintro ⟨h1, h2, h3, h4⟩; rw [h1, h2, h3, h4]
theorem st_iff {s s' : St} : s = s' ↔ s.tm = s'.tm ∧ s.vt = s'.vt ∧ s.b = s'.b ∧ s.t = s'.t ∧ s.l = s'.l ∧ s.cf = s'.cf ∧ s.sn = s'.sn := by
  constructor
  · rintro rfl; exact ⟨rfl, rfl, rfl, rfl, rfl, rfl, rfl⟩
  · rintro ⟨h1, h2, h3, h4, h5, h6, h7⟩
    cases s; cases s'
    dsimp only at *
    rw [h1, h2, h3, h4, h5, h6, h7]
theorem Sv.fit_of {s s' : Sv} {W W' : World} {ok ok' : Nat → Prop} (h' : s'.At W' ok') (h : s.At W ok) (hf : s.Fit) (e : s'.st = s.st) : s'.Fit := by
  obtain ⟨e1, e2, e3, e4, e5, e6, e7⟩ := st_iff.1 e
  have k1 : s'.tm = s.tm := e1
  have k2 : s'.vt = s.vt := e2
  have k3 : s'.b = s.b := e3
  have k4 : s'.t = s.t := e4
  have k5 : s'.L.map en = s.L.map en := e5
  have k6 : s'.cf = s.cf := e6
  have k7 : s'.sn = s.sn := e7
  have l1 := h'.l.flen ecell_len (by omega)
  have l2 := h.l.flen ecell_len (by omega)
  have l3 := congrArg List.length k5
  rw [List.length_map, List.length_map] at l3
  have l4 := ii_len h'.cf
  have l5 := ii_len h.cf
  have l6 := h'.sn.blen
  have l7 := h.sn.blen
  have l8 := hf.z
  refine ⟨by rw [k1, k2, k3, k4]; exact hf.i, fun y hy => ?_, by omega, by rw [k6] at l4; omega, by rw [k7] at l6; omega⟩
  have hm : en y ∈ s.L.map en := by rw [← k5]; exact List.mem_map_of_mem hy
  obtain ⟨x, hx, hxy⟩ := List.mem_map.1 hm
  obtain ⟨m1, m2, m3, m4⟩ := en_iff.1 hxy
  have m5 := (h'.d y hy).1.blen
  have m6 := (h.d x hx).1.blen
  have m7 := hf.w x hx
  rw [m4] at m6
  refine ⟨?_, by omega⟩
  have m8 := m7.1
  unfold W64 at m8 ⊢
  rw [← m1, ← m2, ← m3]
  exact m8
end Go.Proofs.YtmhaahcbmdhinaaGreatDoor
namespace Go.Proofs.YtmhaahcbmdhinaaGreatDoor
open Go.RowKit
set_option maxRecDepth 100000
set_option linter.unusedVariables false
set_option linter.unusedSimpArgs false
def aloneT (w : Int) (i : Nat) : Cr := if (i : Int) < w then lone0 5 w i else lone1 5 5 [⟨1, 1, 0, []⟩] 0
theorem aloneT_tick (w : Int) (i : Nat) : (aloneT w i).tick 0 = (aloneT w (i + 1), []) := by
  unfold aloneT
  by_cases h : (i : Int) < w
  · rw [if_pos h]
    by_cases h2 : ((i + 1 : Nat) : Int) < w
    · rw [if_pos h2, lone_tick0 (by omega)]
      rfl
    · rw [if_neg h2, lone_lead (by omega)]
      rfl
  · rw [if_neg h, if_neg (by omega), lone_tick1 (by decide) lon_one]
theorem drw5 (draw : Int) : 5 ≤ drw 5 draw ∧ drw 5 draw ≤ 10 := by
  have h1 := Int.emod_nonneg (draw % 18446744073709551616) (b := (6 : Int)) (by omega)
  have h2 := Int.emod_lt_of_pos (draw % 18446744073709551616) (b := (6 : Int)) (by omega)
  have e : drw 5 draw = 5 + (draw % 18446744073709551616) % 6 := rfl
  omega
theorem errV_E (k : Int) : errV k = errE k := rfl
theorem lon_at {l : List En} (h : LonL l) {d : List UInt8} (hd : d.length ≤ 4096) (hl : l.length + 1 ≤ 1000) : atL 0 0 (l ++ [⟨(l.length : Int) + 1, 1, 1, d⟩]) ((l.length : Int) + 1) = (0, ⟨(l.length : Int) + 1, 1, 1, d⟩) := by
  have hs := h.snoc (kd := 1) (d := d) (.inr rfl) hd hl
  unfold atL
  rw [lon_lmay hs, if_neg (by simp), lon_lstA hs, if_neg (by rw [List.length_append]; simp; omega), if_neg (by omega)]
  have e : ((l.length : Int) + 1 - 0 - 1).toNat = l.length := by omega
  rw [e]
  simp
theorem fld_view0 (a b c d : Int) (w : World) : (Instr.field 57 (.agg #[.int .i64 a, .int .i64 b, .int .i64 c, .int .i64 d]) 0).run Tryz.prog w = .ok (.int .i64 a) w := by kernel_rfl
theorem fld_view2 (a b c d : Int) (w : World) : (Instr.field 57 (.agg #[.int .i64 a, .int .i64 b, .int .i64 c, .int .i64 d]) 2).run Tryz.prog w = .ok (.int .i64 c) w := by kernel_rfl
theorem fld_log (a b c d : Int) (x y z : Value) (w : World) : (Instr.field 41 (.agg #[.int .i64 a, .int .i64 b, .int .i64 c, .int .i64 d, x, y, z]) 2).run Tryz.prog w = .ok (.agg #[.int .i64 c, .int .i64 d, x]) w := by kernel_rfl
set_option maxHeartbeats 25600000 in
theorem alone_walk (A : Option Addr) (n c : Nat) (L : List Br) (draw : Int) (W : World) (hr : Rd W T 1 A n (flat brcell L)) (hL : BDat W L) (ht : TabW W) (hv : EvW W W.heap.size) (hg : ErrT W) :
    Calls Tryz.prog 4 #[.slice A n c, .int .i64 draw] W (YesPost W) := by
  have he : Env W.heap.size W := ⟨W, rfl, hv, ht, Below.refl _ _⟩
  obtain ⟨W0, hW0⟩ : ∃ W0, W0 = W.alloc (.cells #[.int .i64 1] 3) := ⟨_, rfl⟩
  have hb0 : Below W.heap.size W W0 := by subst hW0; exact (Below.refl _ _).alloc (Nat.le_refl _) _
  have r0 : Rd W0 T 1 (some ⟨W.heap.size, 0, none⟩) 1 (ii [1]) := by subst hW0; exact (show Rd _ _ 1 _ 1 (ii [1]) from Rd.blit1 (cs := #[.int .i64 1]) rfl).any
  have a0 : Sv.At ⟨0, 0, 0, 0, none, 0, 0, [], some ⟨W.heap.size, 0, none⟩, 1, 1, [1], none, 0, 0, []⟩ W0 T := ⟨Rd.none_, (fun y hy => by cases hy), r0, Rd.none_, ⟨Nat.le_refl _, by simp [maxLen]⟩, ⟨Nat.le_refl _, by simp [maxLen]⟩, ⟨Nat.le_refl _, by simp [maxLen]⟩⟩
  have hf : Sv.Fit ⟨0, 0, 0, 0, none, 0, 0, [], some ⟨W.heap.size, 0, none⟩, 1, 1, [1], none, 0, 0, []⟩ := ⟨⟨i64_0, i64_0, i64_0, i64_0⟩, (fun y hy => by cases hy), by show (0 : Nat) ≤ 1000000 ∧ (1 : Nat) ≤ 1000000 ∧ (0 : Nat) ≤ 100000000; omega⟩
  have hnw := new_ok 1 5 draw _ W0 a0 hf (he.new hb0).ev (by omega) (by omega) (by omega) (by omega)
  have HW := Lib.hid hW0
  have H := Lib.hid (And.intro he (And.intro hb0 (And.intro hr (And.intro hL hg))))
  have Hnw := Lib.hid hnw
  unfold Sv.val stA at Hnw
  clear hW0 hb0 r0 a0 hf hnw he hr hL ht hv hg
  go_enter Tryz.func4, Tryz.ntmps4
  go_wp2_with fail
  rw [← HW.out]
  refine Hnw.out.mono ?_
  intro e w1 h1
  have h1 : NewPost W0 1 5 draw ⟨0, 0, 0, 0, [], [1], []⟩ e w1 := h1
  unfold NewPost at h1
  rw [if_pos St1_may] at h1
  obtain ⟨p, s', rfl, b1, a1, e1, hp, m1, hb1⟩ := h1
  have hb1' : Below W.heap.size W w1 := H.out.2.1.trans (hb1.mono H.out.2.1.size)
  obtain ⟨dw, hdw⟩ : ∃ dw, drw 5 draw = dw := ⟨_, rfl⟩
  have hdr := drw5 draw
  have hcx0 : CX W.heap.size w1 (p + 1) (fun b => b = p ∨ b = p + 1) (fun b => b = p ∨ b = p + 1) (Cr.new 1 5 draw ⟨0, 0, 0, 0, [], [1], []⟩) (newMb p s') := CX.ofNew H.out.2.1.size b1 a1 e1 hp m1
  have hok0 : (Cr.new 1 5 draw ⟨0, 0, 0, 0, [], [1], []⟩).Ok 1 := Cr.Ok.new (id := 1) (span := 5) (draw := draw) St1_may (by show (0 : Nat) ≤ _; omega) (by decide) (by decide)
  have eC : Cr.new 1 5 draw ⟨0, 0, 0, 0, [], [1], []⟩ = aloneT dw 0 := by
    unfold aloneT
    rw [if_pos (by rw [← hdw]; show (0 : Int) < _; omega), ← hdw]
    rfl
  rw [eC] at hcx0 hok0
  rw [hdw] at hdr
  have hen1 : Env W.heap.size w1 := H.out.1.new hb1'
  have S1 := Lib.hid (And.intro hcx0 (And.intro hok0 (And.intro hen1 (And.intro hb1' hdr))))
  have hpw : W.heap.size ≤ p := Nat.le_trans H.out.2.1.size hp
  clear b1 a1 e1 hp m1 hb1 hb1' hcx0 hok0 hen1 hdr hdw eC
  go_wp2_with fail
  go_loopg [7] 10 (fun gm s7 wr => ∃ (i : Nat) (V' U' : Nat → Prop) (m' : Mb), gm = 10 - i ∧ i ≤ 10 ∧ s7 = .int .i64 i ∧ CTo W.heap.size w1 (p + 1) (fun b => b = p ∨ b = p + 1) (fun b => b = p ∨ b = p + 1) (aloneT dw i) wr V' U' m' ∧ (aloneT dw i).Ok 1)
  case atStart => exact ⟨0, _, _, _, by omega, by omega, rfl, CTo.refl S1.out.1, S1.out.2.1⟩
  case round =>
    obtain ⟨i, V', U', m', hm, hi, rfl, hR⟩ := hrel
    have Hm := Lib.hid hm
    have R := Lib.hid hR
    clear hm hR
    have hen : Env W.heap.size wr := S1.out.2.2.1.kept R.out.1.kept S1.out.1.vf
    by_cases hlt : i < 10
    · have hltI : decide ((i : Int) < 10) = true := decide_eq_true (by omega)
      have htk := tick_any 0 R.out.1.cx R.out.2 hen
      have htk2 := R.out.2.tick 0
      rw [aloneT_tick] at htk htk2
      have Htk := Lib.hid (And.intro htk htk2)
      clear htk htk2 hen
      go_wp2_with fail
      refine Htk.out.1.mono ?_
      intro e w2 h2
      obtain ⟨A2, n2, c2, X2, V2, U2, m2, rfl, _, _, _, t2⟩ := h2
      have T2 := Lib.hid t2
      clear t2
      go_wp2_with fail
      go_roundg (10 - (i + 1))
      case measure => have := Hm.out; omega
      case rel => exact ⟨i + 1, V2, U2, m2, rfl, by omega, by go_num, R.out.1.trans T2.out, Htk.out.2⟩
    · have hltI : decide ((i : Int) < 10) = false := decide_eq_false (by omega)
      obtain rfl : i = 10 := by omega
      have eL : aloneT dw 10 = lone1 5 5 [⟨1, 1, 0, []⟩] 0 := by
        unfold aloneT
        rw [if_neg (by have := S1.out.2.2.2.2; omega)]
      have hR := R.out
      rw [eL] at hR
      have hvw := view_any hR.1.cx
      unfold Cr.viewV at hvw
      rw [show (lone1 5 5 [⟨1, 1, 0, []⟩] 0).role = 2 from rfl, show (lone1 5 5 [⟨1, 1, 0, []⟩] 0).leader = 1 from rfl, show (lone1 5 5 [⟨1, 1, 0, []⟩] 0).commit = 1 from rfl, show (lone1 5 5 [⟨1, 1, 0, []⟩] 0).round = 0 from rfl] at hvw
      have hfv := fld_view0 2 1 1 0
      have Hvw := Lib.hid hvw
      have R2 := Lib.hid hR
      clear hvw hR eL hen R
      go_wp2_with fail
      refine Hvw.out.mono ?_
      rintro e w3 ⟨rfl, hb3⟩
      have hto3 := R2.out.1.below hb3
      have T3 := Lib.hid (And.intro hto3 R2.out.2)
      clear hto3 hb3
      go_wp2_with fail
      go_loopg [8, 9, 10, 11, 12, 13, 14, 15, 16, 17] 30 (fun gm s8 s9 s10 s11 s12 s13 s14 s15 s16 s17 wr => ∃ (i : Nat) (l : List En) (V' U' : Nat → Prop) (m' : Mb), gm = 30 - i ∧ i ≤ 30 ∧ s8 = .int .i64 i ∧ LonL l ∧ l.length = i + 1 ∧ CTo W.heap.size w1 (p + 1) (fun b => b = p ∨ b = p + 1) (fun b => b = p ∨ b = p + 1) (lone1 5 5 l i) wr V' U' m' ∧ (lone1 5 5 l i).Ok (i + 1))
      case atStart => exact ⟨0, [⟨1, 1, 0, []⟩], _, _, _, by omega, by omega, rfl, lon_one, rfl, T3.out.1, T3.out.2⟩
      case round =>
        clear R2 Hm
        obtain ⟨i, l, V2, U2, m2, hm, hi, rfl, hl, hll, hR⟩ := hrel
        have Hm := Lib.hid (And.intro hm (And.intro hl hll))
        have R := Lib.hid hR
        clear hm hR hl hll T3
        have hen : Env W.heap.size wr := S1.out.2.2.1.kept R.out.1.kept S1.out.1.vf
        have hbW : Below W.heap.size W wr := S1.out.2.2.2.1.trans (Kept.below R.out.1.kept (fun b hb => by rcases hb with rfl | rfl <;> omega) S1.out.2.2.2.1.size)
        have E := Lib.hid (And.intro hen hbW)
        clear hen hbW
        by_cases hin : i < n
        · have hinI : decide ((i : Int) < (n : Int)) = true := decide_eq_true (by omega)
          by_cases hlt : i < 30
          · have hltI : decide ((i : Int) < 30) = true := decide_eq_true (by omega)
            have hgw : (H.out.2.2.1.below E.out.2) = (H.out.2.2.1.below E.out.2) := rfl
            obtain ⟨b, o, y, rfl, _, _, hy, hc⟩ := br_cells (H.out.2.2.1.below E.out.2) hin
            have hym : y ∈ L := List.mem_of_getElem? hy
            obtain ⟨hyr, hy1, hy2⟩ := H.out.2.2.2.1 y hym
            have hb0 : b < W.heap.size := by
              obtain ⟨_, _, _, e, _, h3, _⟩ := br_cells H.out.2.2.1 hin
              injection e with e
              injection e with e
              omega
            have hcW : ∀ W', Below W.heap.size W W' → W'.cell? ⟨b, o + i, none⟩ = some (.slice y.A y.n y.m) := fun W' hb => by
              have h1 : W.cell? ⟨b, o + i, none⟩ = some (.slice y.A y.n y.m) := by
                rw [← World.cell?_of_block (w := W) (w' := wr) (E.out.2.block b hb0)]
                exact hc
              exact (hb.cell (p := ⟨b, o + i, none⟩) hb0).trans h1
            have hpr := propose_any 1 y.A y.n y.m y.d R.out.1.cx R.out.2 E.out.1 (hyr.below E.out.2) ⟨hy1, hy2⟩
            have hlen := hyr.blen
            have hlp := lone_propose (span := 5) (wait := 5) (r := i) Hm.out.2.1 (by have := Hm.out.2.2; omega) (by intro e; have := Hm.out.2.2; rw [e] at this; simp at this) y.d
            rw [hlp] at hpr
            have YY := Lib.hid (And.intro hyr (And.intro hcW hlen))
            have Hpr := Lib.hid hpr
            clear hyr hcW hlen hpr hlp hgw hy hym hy1 hy2
            go_wp2_with fail
            refine Hpr.out.mono ?_
            intro e w4 h4
            obtain ⟨A4, n4, c4, rfl, h4⟩ := h4
            obtain ⟨A5, n5, c5, X5, V5, U5, m5, e5, r5, x5, _, t5⟩ := h4
            injection e5 with e5
            injection e5 with e5a e5b e5c
            subst e5a e5b e5c
            have hb4 : Below W.heap.size W w4 := E.out.2.trans (Kept.below t5.kept (fun b hb => R.out.1.cx.vf b hb) E.out.2.size)
            have hen4 : Env W.heap.size w4 := E.out.1.kept t5.kept R.out.1.cx.vf
            by_cases hbig : 4096 < y.d.length
            · rw [if_pos hbig] at t5 x5 ⊢
              have hc4 := YY.out.2.1 w4 hb4
              have hbigI : decide ((4096 : Int) < (y.n : Int)) = true := decide_eq_true (by have := YY.out.2.2; omega)
              have hnum := num_any 2 w4 (H.out.2.2.2.2.under hb4 H.out.2.2.2.2.lt)
              have hsu := fun W' (hb : Below w4.heap.size w4 W') => sure_any W' (hen4.new hb)
              rw [errV_E] at hnum
              have Hnum := Lib.hid hnum
              have Hsu := Lib.hid hsu
              have B4 := Lib.hid hb4
              clear hnum hsu hb4 hen4 t5 r5 x5
              rw [show errE (2 : Int) = .iface 105 (.int .i64 2) from rfl] at *
              go_wp2_with fail
              refine Hnum.out.mono ?_
              rintro e w5 ⟨rfl, hb5⟩
              go_wp2_with fail
              refine (Hsu.out w5 hb5).mono ?_
              rintro e w6 ⟨rfl, hb6⟩
              have B6 := Lib.hid ((B4.out.trans (hb5.mono B4.out.size)).trans (hb6.mono (Nat.le_trans B4.out.size hb5.size)))
              clear hb5 hb6
              go_wp2_with fail
              go_ret
              exact ⟨rfl, B6.out⟩
            · rw [if_neg hbig] at t5 x5 ⊢
              have hbigI : decide ((4096 : Int) < (y.n : Int)) = false := decide_eq_false (by have := YY.out.2.2; omega)
              have hc4 := YY.out.2.1 w4 hb4
              have hk5 : (R.out.2.propose 1 y.d) = (R.out.2.propose 1 y.d) := rfl
              have hok5 := R.out.2.propose 1 y.d
              have hlp := lone_propose (span := 5) (wait := 5) (r := i) Hm.out.2.1 (by have := Hm.out.2.2; omega) (by intro e; have := Hm.out.2.2; rw [e] at this; simp at this) y.d
              rw [if_neg hbig] at hlp
              rw [hlp] at hok5
              have hX : X5 = [] := List.eq_nil_of_length_eq_zero (by have := congrArg List.length x5; simpa using this)
              subst hX
              have hn5 := r5.len
              simp at hn5
              subst hn5
              obtain ⟨l5, hl5⟩ : ∃ l5, l5 = l ++ [(⟨(l.length : Int) + 1, 1, 1, y.d⟩ : En)] := ⟨_, rfl⟩
              have hll := Hm.out.2.2
              have hLl := Hm.out.2.1
              have hL5 : LonL l5 := by rw [hl5]; exact hLl.snoc (.inr rfl) (by omega) (by omega)
              have h5l : l5.length = i + 1 + 1 := by rw [hl5, List.length_append, hll]; rfl
              have hne5 : l5 ≠ [] := by intro e; rw [e] at h5l; simp at h5l
              have hat5 := lon_at hLl (d := y.d) (by omega) (by omega)
              have hrd5 := lone_read (span := 5) (wait := 5) (r := i) hL5 hne5
              have hhe5 := lone_heard (span := 5) (wait := 5) (r := (i : Int) + 1) hL5 (k := (i : Int) + 1) (by omega) (by omega)
              dsimp only at t5 hok5 ⊢
              rw [← hl5] at t5 hok5 hat5
              obtain ⟨ix, hix⟩ : ∃ ix : Int, (l.length : Int) + 1 = ix := ⟨_, rfl⟩
              rw [hix] at hat5
              rw [hix]
              have ew3 : IntKind.i64.wrap ((i : Int) + 2) = (i : Int) + 2 := by rw [IntKind.wrap_i64]; omega
              have e96 : (ix != IntKind.i64.wrap ((i : Int) + 2)) = false := by rw [ew3, ← hix, hll]; simp; omega
              clear ew3
              obtain ⟨C5, hC5⟩ : ∃ C5, lone1 5 5 l5 i = C5 := ⟨_, rfl⟩
              obtain ⟨zl, hzl⟩ : ∃ zl : Int, (l5.length : Int) = zl := ⟨_, rfl⟩
              have e103 : (C5.commit != ix) = false := by rw [← hC5, ← hix, hll]; show ((l5.length : Int) != _) = false; rw [h5l]; simp
              have e134 : (zl != ix) = false := by rw [← hzl, ← hix, hll, h5l]; simp
              have es5 : C5.s = ⟨1, 1, 0, 0, l5, [1], []⟩ := by rw [← hC5]; rfl
              rw [hC5] at t5 hok5 hrd5
              have hst := stored_any t5.cx hok5
              have hvw := fun W' (hb : Below w4.heap.size w4 W') => view_any (t5.cx.below hb)
              have hrc := fun W' (hb : Below w4.heap.size w4 W') => readC_any (t5.cx.below hb) hok5 (by omega) (hen4.new hb)
              have hfit5 := t5.cx.fit hok5
              have hsf := fun (s : Sv) (W' : World) (ok : Nat → Prop) (ha : s.At W' ok) (e : s.st = C5.s) => Sv.fit_of ha t5.cx.at_ hfit5 (e.trans t5.cx.st.symm)
              have hokr := hok5.read (by omega)
              rw [hrd5] at hrc hokr
              have K5 := Lib.hid (And.intro t5 (And.intro hok5 (And.intro hL5 (And.intro h5l (And.intro hat5 (And.intro hhe5 (And.intro es5 (And.intro hsf (And.intro hb4 (And.intro hen4 (And.intro hokr hzl)))))))))))
              have Hst := Lib.hid hst
              have Hvw := Lib.hid hvw
              have Hrc := Lib.hid hrc
              have Hix := Lib.hid (And.intro hix hl5)
              clear hst hvw hrc hfit5 hsf hok5 hL5 h5l hne5 hat5 hrd5 hhe5 es5 t5 hlp hk5 hb4 hen4 hll hLl x5 r5 hokr hC5 hzl hix hl5
              rw [errE0]
              go_wp2_with fail
              refine Hst.out.mono ?_
              intro e w5 h5
              obtain ⟨s5, rfl, a5, es, hb5⟩ := h5
              have hfs := K5.out.2.2.2.2.2.2.2.1 s5 w5 _ a5 es
              have es2 := es.trans K5.out.2.2.2.2.2.2.1
              have eb : s5.b = 0 := congrArg St.b es2
              have et : s5.t = 0 := congrArg St.t es2
              have el : s5.L.map en = l5 := congrArg St.l es2
              have hat := at_any s5.b s5.t ix s5.A s5.n s5.c s5.L w5 a5.l.any a5.dat (fun x hx => (hfs.w x hx).2) (a5.wel hfs) hfs.z.1
              have hat2 : atL s5.b s5.t (s5.L.map en) ix = (0, ⟨ix, 1, 1, y.d⟩) := by
                rw [eb, et, el, K5.out.2.2.2.2.1]
                try rw [Hix.out.1]
              rw [hat2] at hat
              have Hat := Lib.hid hat
              have hfl := fld_log s5.tm s5.vt s5.b s5.t (.slice s5.A s5.n s5.c) (.slice s5.C s5.nc s5.cc) (.slice s5.S s5.ns s5.cs)
              have B5 := Lib.hid hb5
              clear a5 es hb5 hfs es2 eb et el hat hat2
              unfold Sv.val stA
              go_wp2_with fail
              refine Hat.out.mono ?_
              intro e w6 h6
              obtain ⟨x, rfl, ex, rx, hxn, hb6⟩ := h6
              have exd : x.d = y.d := congrArg En.d ex
              rw [exd] at rx
              rw [show errC (0 : Int) = .nilIface from rfl]
              unfold ecA
              have hb46 : Below w4.heap.size w4 w6 := B5.out.trans (hb6.mono B5.out.size)
              have X6 := Lib.hid (And.intro rx hb46)
              clear ex rx hxn hb6 hb46 exd
              go_upto_region 17 with (fail)
              obtain ⟨W7, hW7⟩ : ∃ W7, W7 = w6.alloc (.cells #[.int .i64 x.a, .int .i64 x.b, .int .i64 x.c, .slice x.A x.n x.m] 62) := ⟨_, rfl⟩
              have z7 : Bx W7 w6.heap.size #[.int .i64 x.a, .int .i64 x.b, .int .i64 x.c, .slice x.A x.n x.m] := by subst hW7; exact Bx.new _ _ _ rfl
              have hb67 : Below w6.heap.size w6 W7 := by subst hW7; exact (Below.refl _ _).alloc (Nat.le_refl _) _
              have hb47 : Below w4.heap.size w4 W7 := X6.out.2.trans (hb67.mono X6.out.2.size)
              have hbW7 : Below W.heap.size W W7 := K5.out.2.2.2.2.2.2.2.2.1.trans (hb47.mono K5.out.2.2.2.2.2.2.2.2.1.size)
              rw [← hW7]
              have F7 : Hid (∀ W', Below W7.heap.size W7 W' → W'.cell? ⟨w6.heap.size, 3, none⟩ = some (.slice x.A x.n x.m) ∧ W'.cell? ⟨b, o + i, none⟩ = some (.slice y.A y.n y.m) ∧ (convert 26 9 (.slice x.A x.n x.m)).run Tryz.prog W' = .ok (.string ⟨y.d.toArray⟩) W' ∧ (convert 26 9 (.slice y.A y.n y.m)).run Tryz.prog W' = .ok (.string ⟨y.d.toArray⟩) W') := Lib.hid fun W' hb =>
                ⟨(z7.below hb).c 3, YY.out.2.1 W' (hbW7.trans (hb.mono hbW7.size)), conv_bytes _ _ _ Tryz.underlying26 Tryz.underlying5 Tryz.underlying9 ((X6.out.1.below hb67).below hb), conv_bytes _ _ _ Tryz.underlying26 Tryz.underlying5 Tryz.underlying9 (YY.out.1.below (hbW7.trans (hb.mono hbW7.size)))⟩
              have Z7 := Lib.hid (And.intro hb47 hbW7)
              have hvw7 := Hvw.out W7.drew (hb47.drew)
              unfold Cr.viewV at hvw7
              have Hvw7 := Lib.hid hvw7
              have hf7 := fld_view2 C5.role C5.leader C5.commit C5.round
              clear z7 hb67 hb47 hbW7 hW7 hvw7 hc4
              refine wp_region_S 34 (fun W' => Below W7.heap.size W7 W') (.take 0 (.take 1 (.take 2 (.take 3 (.take 4 (.take 5 (.take 6 (.take 7 (.take 8 (.take 9 (.take 10 (.take 11 (.take 12 (.take 13 (.take 14 (.take 15 (.take 16 (.take 17 (.take 18 (.take 21 (.one 19 (.take 20 (.take 22 (.take 23 (.take 24 (.take 25 (.take 26 (.take 27 (.take 28 (.take 29 (.take 30 (.take 31 (.take 32 (.take 33 (.one 34 (.nil)))))))))))))))))))))))))))))))))))) (by kernel_rfl) (Below.refl _ _).drew (fun _ _ _ _ h => h) (fun hS => ?_)
              repeat (first
                | (refine wpS_take (v := ?_) rfl rfl (by rfl) ?_ ?_; rotate_left; (intro W hW; have hf := F7.out W hW; go_split_ands; go_simp; try with_reducible rfl); try simp only [Act.put, List.setIfInBounds_toArray, List.set_cons_zero, List.set_cons_succ])
                | (refine wpS_skip rfl rfl (by rfl) ?_; try simp only [Act.put, List.setIfInBounds_toArray, List.set_cons_zero, List.set_cons_succ]))
              refine wpS_one rfl (by rfl) (fun K hK => ?_)
              go_simp
              go_at_call 18
              refine (Hvw7.out).mono ?_
              rintro e w8 ⟨rfl, hb8⟩
              have hS8 : Below W7.heap.size W7 w8 := (Below.refl _ _).drew.trans hb8
              clear hb8
              refine hK (fun W' => Below W7.heap.size W7 W') _ _ (fun _ h => h) hS8 ?_
              clear hK K
              try simp only [Act.put, List.setIfInBounds_toArray, List.set_cons_zero, List.set_cons_succ]
              repeat (first
                | (refine wpS_take (v := ?_) rfl rfl (by rfl) ?_ ?_; rotate_left; (intro W hW; have hf := F7.out W hW; go_split_ands; go_simp; try with_reducible rfl); try simp only [Act.put, List.setIfInBounds_toArray, List.set_cons_zero, List.set_cons_succ])
                | (refine wpS_skip rfl rfl (by rfl) ?_; try simp only [Act.put, List.setIfInBounds_toArray, List.set_cons_zero, List.set_cons_succ]))
              refine wpS_last rfl (by rfl) (fun K hK => ?_)
              go_simp
              refine hK _ _ ?_
              clear hK K
              try simp only [Act.put, List.setIfInBounds_toArray, List.set_cons_zero, List.set_cons_succ]
              refine wpS_nil ?_
              have hrc7 := Hrc.out w8 (Z7.out.1.trans (hS8.mono Z7.out.1.size))
              have Hrc8 := Lib.hid hrc7
              have B8 := Lib.hid (Z7.out.1.trans (hS8.mono Z7.out.1.size))
              clear hrc7 hS8 hS
              go_wp2_with fail
              refine Hrc8.out.mono ?_
              intro e w9 h9
              obtain ⟨A9, n9, c9, rfl, h9⟩ := h9
              obtain ⟨A10, n10, c10, X10, V10, U10, m10, e10, r10, x10, _, t10⟩ := h9
              injection e10 with e10
              injection e10 with e10a e10b e10c
              subst e10a e10b e10c
              have hX : X10 = [] := List.eq_nil_of_length_eq_zero (by have := congrArg List.length x10; simpa using this)
              subst hX
              have hn10 := r10.len
              simp at hn10
              subst hn10
              dsimp only at t10 ⊢
              rw [K5.out.2.2.2.2.2.2.2.2.2.2.2]
              have hto10 := (K5.out.1.below B8.out).trans t10
              have hhd := heard_any ((i : Int) + 1) t10.cx K5.out.2.2.2.2.2.2.2.2.2.2.1 ((K5.out.2.2.2.2.2.2.2.2.2.1.new B8.out).kept t10.kept (K5.out.1.cx.below B8.out).vf)
              rw [K5.out.2.2.2.2.2.1] at hhd
              have Hhd := Lib.hid hhd
              have T10 := Lib.hid hto10
              clear t10 hto10 hhd r10 x10
              rw [errE0]
              go_wp2_with fail
              refine Hhd.out.mono ?_
              rintro e w11 ⟨rfl, hb11⟩
              have B11 := Lib.hid hb11
              clear hb11
              go_wp2_with fail
              go_roundg (30 - (i + 1))
              case measure => have := Hm.out.1; omega
              case rel =>
                have hto := (R.out.1.trans T10.out).below B11.out
                refine ⟨i + 1, l5, V10, U10, m10, rfl, by omega, by go_num, K5.out.2.2.1, K5.out.2.2.2.1, ?_, ?_⟩
                · have e : (((i + 1 : Nat) : Int)) = (i : Int) + 1 := by omega
                  rw [e]
                  exact hto
                · have e : (((i + 1 : Nat) : Int)) = (i : Int) + 1 := by omega
                  rw [e]
                  exact K5.out.2.2.2.2.2.2.2.2.2.2.1
          · have hltI : decide ((i : Int) < 30) = false := decide_eq_false (by omega)
            have hsu := sure_any wr E.out.1
            have Hsu := Lib.hid hsu
            clear hsu
            go_wp2_with fail
            refine Hsu.out.mono ?_
            rintro e w6 ⟨rfl, hb6⟩
            have B6 := Lib.hid (E.out.2.trans (hb6.mono E.out.2.size))
            clear hb6
            go_wp2_with fail
            go_ret
            exact ⟨rfl, B6.out⟩
        · have hinI : decide ((i : Int) < (n : Int)) = false := decide_eq_false (by omega)
          have hsu := sure_any wr E.out.1
          have Hsu := Lib.hid hsu
          clear hsu
          go_wp2_with fail
          refine Hsu.out.mono ?_
          rintro e w6 ⟨rfl, hb6⟩
          have B6 := Lib.hid (E.out.2.trans (hb6.mono E.out.2.size))
          clear hb6
          go_wp2_with fail
          go_ret
          exact ⟨rfl, B6.out⟩
end Go.Proofs.YtmhaahcbmdhinaaGreatDoor
namespace Go.Proofs.YtmhaahcbmdhinaaGreatDoor
open Go.ChangeShapes Go.WideShapes Go.RowKit
set_option linter.unusedVariables false
theorem La.own : ownKnob Tryz.prog.godebug = none := by kernel_rfl
theorem La.laidOut : laidOutB Tryz.prog = true := by kernel_rfl
theorem La.et : Tryz.prog.globalNamed "errors.errorType" = some 0 := by kernel_rfl
theorem La.rt : (Tryz.prog.cutTypes.find? (·.1 == "internal/reflectlite.rtype")).map (·.2) = some 240 := by kernel_rfl
theorem La.oneRow : ((List.range 397).filter fun t => Tryz.prog.rowNamed t [101, 114, 114, 111, 114]) = [33] := by kernel_rfl
theorem La.size : Tryz.prog.types.size = 397 := by kernel_rfl
theorem handle_of_laid {W : World} (h : laidMetH Tryz.prog [("errors.errorType", Rows.laid_errors_errorType)] W) : ErrT W := by
  have h' : laidMet Tryz.prog [] W ∧ handlesMet Tryz.prog [("errors.errorType", Rows.laid_errors_errorType)] W := h
  obtain ⟨name, u, ty, e1, e2, e3, e4, e5⟩ := h'.2 _ (List.mem_singleton.2 rfl)
  have en : name = [101, 114, 114, 111, 114] := (Option.some.inj e1).symm
  subst en
  obtain rfl := Option.some.inj (La.rt.symm.trans e2)
  have hm : ty ∈ (List.range 397).filter fun t => Tryz.prog.rowNamed t [101, 114, 114, 111, 114] := List.mem_filter.2 ⟨List.mem_range.2 (by rw [← La.size]; exact e3), e4⟩
  rw [La.oneRow] at hm
  obtain rfl := List.mem_singleton.1 hm
  have hh : typeHandle Tryz.prog 33 = .pointer (some ⟨6, 33, none⟩) := by kernel_rfl
  rw [hh] at e5
  have := World.var?_cell La.et e5 0
  unfold ErrT
  simpa using this
/-- A world that meets the condition: the settled one, the variable's cell laid. -/
noncomputable def laidWorld (os : Os) : World :=
  let w0 := World.holding Tryz.prog os ⟨#[], #[], []⟩
  { w0 with heap := w0.heap.modify 0 fun
      | .cells _ t frozen => .cells #[.iface 240 (.agg #[.pointer (some ⟨6, 33, none⟩)])] t frozen
      | o => o }
theorem laidWorld_met (os : Os) (args : Array Value) : laidMetH Tryz.prog [("errors.errorType", Rows.laid_errors_errorType)] ((laidWorld os).forCall (fun _ _ => 0) ⟨#[], args, []⟩).memory :=
  laidMetH_of_parts (laidMet_nil _ _) (by kernel_rfl)
end Go.Proofs.YtmhaahcbmdhinaaGreatDoor
namespace Go.Proofs.YtmhaahcbmdhinaaGreatDoor
open Go.ChangeShapes Go.WideShapes Go.RowKit
set_option maxRecDepth 100000
set_option linter.unusedVariables false
abbrev L3 : List (String × DataW Unit) := [("math/bits.deBruijn32tab", Rows.laid_math_bits_deBruijn32tab), ("math/bits.deBruijn64tab", Rows.laid_math_bits_deBruijn64tab), ("internal/strconv.uint64pow10", Rows.laid_internal_strconv_uint64pow10)]
abbrev L4 : List (String × DataW Unit) := [("math/bits.deBruijn32tab", Rows.laid_math_bits_deBruijn32tab), ("math/bits.deBruijn64tab", Rows.laid_math_bits_deBruijn64tab), ("internal/strconv.uint64pow10", Rows.laid_internal_strconv_uint64pow10), ("errors.errorType", Rows.laid_errors_errorType)]
theorem tab_of_met {W : World} (h : laidMet Tryz.prog L3 W) : TabW W :=
  Lib.tabIs_of_head (n := 20) tabG (by kernel_rfl) Tryz.underlying345 Tryz.underlying214 (by kernel_rfl) (by kernel_rfl) (show laidMet Tryz.prog [("internal/strconv.uint64pow10", Lib.tabData .u64 Lib.pow10Tab)] W from h.tail.tail)
theorem of_laid3 {W : World} (h : laidMetH Tryz.prog L3 W) : TabW W := tab_of_met h
theorem of_laid4 {W : World} (h : laidMetH Tryz.prog L4 W) : TabW W ∧ ErrT W := by
  have h' : laidMet Tryz.prog L3 W ∧ handlesMet Tryz.prog [("errors.errorType", Rows.laid_errors_errorType)] W := h
  exact ⟨tab_of_met h'.1, handle_of_laid (show laidMetH Tryz.prog [("errors.errorType", Rows.laid_errors_errorType)] W from ⟨⟨[], rfl, List.nodup_nil, fun _ _ h => by cases h⟩, h'.2⟩)⟩
def litsOf : DataW Unit → Array Value
  | .agg l => (l.map fun
    | .lit (.int k z) => Value.int k z
    | _ => undef).toArray
  | _ => #[]
noncomputable def laidWorldT (os : Os) : World :=
  let w0 := laidWorld os
  { w0 with heap := ((w0.heap.modify 2 fun
      | .cells _ t frozen => .cells (litsOf Rows.laid_math_bits_deBruijn32tab) t frozen
      | o => o).modify 3 fun
      | .cells _ t frozen => .cells (litsOf Rows.laid_math_bits_deBruijn64tab) t frozen
      | o => o).modify 1 fun
      | .cells _ t frozen => .cells (litsOf Rows.laid_internal_strconv_uint64pow10) t frozen
      | o => o }
theorem laidWorldT_met3 (os : Os) (args : Array Value) : laidMetH Tryz.prog L3 ((laidWorldT os).forCall (fun _ _ => 0) ⟨#[], args, []⟩).memory :=
  laidMetH_of_parts (laidMet_of_run3 8 (by kernel_rfl) (by kernel_rfl) (by kernel_rfl)) (by kernel_rfl)
theorem laidWorldT_met4 (os : Os) (args : Array Value) : laidMetH Tryz.prog L4 ((laidWorldT os).forCall (fun _ _ => 0) ⟨#[], args, []⟩).memory :=
  laidMetH_of_parts (laidMet_of_run3 8 (by kernel_rfl) (by kernel_rfl) (by kernel_rfl)) (by kernel_rfl)
end Go.Proofs.YtmhaahcbmdhinaaGreatDoor
