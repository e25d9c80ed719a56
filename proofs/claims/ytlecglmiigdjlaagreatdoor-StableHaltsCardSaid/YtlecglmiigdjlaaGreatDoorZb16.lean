/- Walk: what bytes tell: stable.Decode. (Printed by mkkdec.py.) -/
import Derived.Test.YtlecglmiigdjlaaGreatDoorZb15
import Derived.Test.YtlecglmiigdjlaaGreatDoorZb6
import Derived.Test.YtlecglmiigdjlaaGreatDoorZb12
namespace Go.Proofs.YtlecglmiigdjlaaGreatDoor
open Go.RowKit
set_option maxRecDepth 100000
set_option linter.unusedVariables false
set_option linter.unusedSimpArgs false
theorem Bx.c5 {W : World} {g : Nat} {a b c d e : Value} (hx : Bx W g #[a, b, c, d, e]) : W.cell? ⟨g, 0, none⟩ = some a ∧ W.cell? ⟨g, 1, none⟩ = some b ∧ W.cell? ⟨g, 2, none⟩ = some c ∧ W.cell? ⟨g, 3, none⟩ = some d ∧ W.cell? ⟨g, 4, none⟩ = some e :=
  ⟨hx.c 0, hx.c 1, hx.c 2, hx.c 3, hx.c 4⟩
def z7 : Array Value := #[.int .i64 0, .int .i64 0, .int .i64 0, .int .i64 0, .slice none 0 0, .slice none 0 0, .slice none 0 0]
def DecPost (W : World) (er : Int → Value) : Option (Nat × St) → Ending → World → Prop
  | none, e, w' => e = .returned (.tuple #[.int .i64 0, .agg z7, er 3]) ∧ Below W.heap.size W w'
  | some x, e, w' => ∃ s : Sv, e = .returned (.tuple #[.int .i64 (x.1 : Nat), s.val, er 0]) ∧ s.At w' (W.heap.size < ·) ∧ s.st = x.2 ∧ s.Fit ∧ Below W.heap.size W w'
theorem DecPost_none (W : World) (er : Int → Value) (e : Ending) (w' : World) : DecPost W er none e w' = (e = .returned (.tuple #[.int .i64 0, .agg z7, er 3]) ∧ Below W.heap.size W w') := rfl
theorem DecPost_some (W : World) (er : Int → Value) (x : Nat × St) (e : Ending) (w' : World) : DecPost W er (some x) e w' = (∃ s : Sv, e = .returned (.tuple #[.int .i64 (x.1 : Nat), s.val, er 0]) ∧ s.At w' (W.heap.size < ·) ∧ s.st = x.2 ∧ s.Fit ∧ Below W.heap.size W w') := rfl
/-- The five numbers ahead, one behind the other. -/
theorem five_s (l : List UInt8) : ∃ (sF : Nat → RdS) (nF : Nat → Nat), sF 0 = (l, 0) ∧ ∀ j, uintS 1099511627776 (sF j) = (sF (j + 1), nF j) :=
  ⟨fun j => Nat.rec (l, 0) (fun _ s => (uintS 1099511627776 s).1) j, fun j => (uintS 1099511627776 (Nat.rec (l, 0) (fun _ s => (uintS 1099511627776 s).1) j)).2, rfl, fun _ => rfl⟩
theorem bytesS_le (most : Nat) (s : RdS) : (bytesS most s).2.length ≤ most := by
  obtain ⟨⟨s', o⟩, hq⟩ : ∃ q, numS 98 58 s = q := ⟨_, rfl⟩
  cases o with
  | none => rw [bytesS_none hq]; exact Nat.zero_le _
  | some nk =>
    obtain ⟨n, k⟩ := nk
    rw [bytesS_some hq]
    split
    · exact Nat.zero_le _
    · split
      · exact Nat.zero_le _
      · simp
        omega
theorem entD_le {d : List UInt8} {x : EnS} (h : entD d = some x) : entS (d, 0) = ((entS (d, 0)).1, x) ∧ x.1 ≤ 1099511627776 ∧ x.2.1 ≤ 1099511627776 ∧ x.2.2.1 ≤ 2 ∧ x.2.2.2.length ≤ 4096 := by
  obtain ⟨⟨s1, a⟩, h1⟩ : ∃ q, uintS 1099511627776 (d, 0) = q := ⟨_, rfl⟩
  obtain ⟨⟨s2, b⟩, h2⟩ : ∃ q, uintS 1099511627776 s1 = q := ⟨_, rfl⟩
  obtain ⟨⟨s3, c⟩, h3⟩ : ∃ q, uintS 2 s2 = q := ⟨_, rfl⟩
  obtain ⟨⟨s4, b4⟩, h4⟩ : ∃ q, bytesS 4096 s3 = q := ⟨_, rfl⟩
  have he := entS_eq h1 h2 h3 h4
  rw [entD_eq he] at h
  split at h
  · injection h with h
    subst h
    have k1 := uintS_le 1099511627776 (d, 0)
    have k2 := uintS_le 1099511627776 s1
    have k3 := uintS_le 2 s2
    have k4 := bytesS_le 4096 s3
    rw [h1] at k1
    rw [h2] at k2
    rw [h3] at k3
    rw [h4] at k4
    rw [he]
    exact ⟨rfl, k1, k2, k3, k4⟩
  · cases h
theorem confD_may {l : List UInt8} {cf : List Int} (h : confD l = some cf) : cmay cf = true := by
  obtain ⟨⟨s, m⟩, h1⟩ : ∃ q, countS 7 (l, 0) = q := ⟨_, rfl⟩
  obtain ⟨⟨s', xs⟩, h2⟩ : ∃ q, confR m s = q := ⟨_, rfl⟩
  rw [confD_eq h1 h2] at h
  split at h
  · rename_i h3
    injection h with h
    subst h
    exact h3.2
  · cases h
theorem finS_k {k : Int} (hk : k ≠ 0) (n : Nat) (f : List EnS → List Int → St) (o : Option (List EnS)) (p : Option (List Int)) : finS k n f o p = none := by
  cases o with
  | none => exact finS_es _ _ _ _
  | some a => cases p with
    | none => exact finS_cf _ _ _ _
    | some b => rw [finS_some, if_neg (fun h => hk h.1)]
/-- In the midst of reading: the result's box g, the reader p, the numbers q, what is built v. -/
structure DW (w W : World) (p q v B : Nat) (s : RdS) (ns5 : Array Value) (z : Sv) : Prop where
  bg : Bx W w.heap.size z7
  rr : Rr W p s
  bq : Bx W q ns5
  bv : Bx W v z.cells
  ro : Ro W B z.A z.n z.c z.L
  rc : Rd W (fun b => w.heap.size < b ∧ b < B ∧ b ≠ p ∧ b ≠ q ∧ b ≠ v) 1 z.C z.nc (ii z.cf)
  rs : Rd W (fun b => w.heap.size < b ∧ b < B ∧ b ≠ p ∧ b ≠ q ∧ b ≠ v) 1 z.S z.ns (bs z.sn)
  k2 : z.nc ≤ z.cc ∧ z.cc ≤ maxLen
  k3 : z.ns ≤ z.cs ∧ z.cs ≤ maxLen
  be : Below w.heap.size w W
  lt : w.heap.size < p ∧ p < q ∧ q < v ∧ v < B ∧ B ≤ W.heap.size
section
variable {w W W' : World} {p q v B : Nat} {s s' : RdS} {ns5 : Array Value} {z : Sv}
theorem Ro.gb {B : Nat} {A : Option Addr} {n c : Nat} {l : List Er} (h : Ro W B A n c l) (hg : W.grownBy W' (some p)) (hp : p < B) : Ro W' B A n c l :=
  ⟨own_gb h.ow hg hp, fun y hy => ⟨((h.dt y hy).1).keep fun b hb hl => hg.block b hl (fun e => by injection e with e; have := hb.1; omega), (h.dt y hy).2⟩⟩
theorem DW.gb (h : DW w W p q v B s ns5 z) (hr : Rr W' p s') (hg : W.grownBy W' (some p)) : DW w W' p q v B s' ns5 z := by
  obtain ⟨l1, l2, l3, l4, l5⟩ := h.lt
  have hk : ∀ b, b < W.heap.size → b ≠ p → W'.heap[b]? = W.heap[b]? := fun b hb hne => hg.block b hb (fun e => hne (by injection e))
  exact ⟨h.bg.keep (hk _ h.bg.lt (by omega)), hr, h.bq.keep (hk _ h.bq.lt (by omega)), h.bv.keep (hk _ h.bv.lt (by omega)), h.ro.gb hg (by omega), h.rc.keep fun b hb hl => hk b hl hb.2.2.1, h.rs.keep fun b hb hl => hk b hl hb.2.2.1, h.k2, h.k3,
    ⟨hg.os.trans h.be.os, hg.tape.trans h.be.tape, hg.output.trans h.be.output, Nat.le_trans h.be.size hg.size, fun i hi => (hk i (by have := h.be.size; omega) (by omega)).trans (h.be.block i hi)⟩, l1, l2, l3, l4, Nat.le_trans l5 hg.size⟩
theorem DW.below (h : DW w W p q v B s ns5 z) (hb : Below W.heap.size W W') : DW w W' p q v B s ns5 z := h.gb (h.rr.gb hb) (below_gb hb)
theorem DW.fill (h : DW w W p q v B s ns5 z) (hA : z.A = none) (hn : z.n = 0) (hc : z.c = 0) (hL : z.L = []) {C S : Option Addr} {nc cc ns cs : Nat} {cf : List Int} {sn : List UInt8} (rc : Rd W (v < ·) 1 C nc (ii cf)) (rs : Rd W (v < ·) 1 S ns (bs sn)) (k2 : nc ≤ cc ∧ cc ≤ maxLen) (k3 : ns ≤ cs ∧ cs ≤ maxLen) :
    DW w ((W.setCell ⟨v, 5, none⟩ (.slice C nc cc)).setCell ⟨v, 6, none⟩ (.slice S ns cs)) p q v W.heap.size s ns5 { z with C := C, nc := nc, cc := cc, cf := cf, S := S, ns := ns, cs := cs, sn := sn } := by
  obtain ⟨l1, l2, l3, l4, l5⟩ := h.lt
  have hk : ∀ b, b ≠ v → ((W.setCell ⟨v, 5, none⟩ (.slice C nc cc)).setCell ⟨v, 6, none⟩ (.slice S ns cs)).heap[b]? = W.heap[b]? := fun b hb => (Below.heap_setCell _ _ _ b hb).trans (Below.heap_setCell _ _ _ b hb)
  have hsz : ((W.setCell ⟨v, 5, none⟩ (.slice C nc cc)).setCell ⟨v, 6, none⟩ (.slice S ns cs)).heap.size = W.heap.size := by simp [World.setCell]
  have hb2 : Below (p + 1) W ((W.setCell ⟨v, 5, none⟩ (.slice C nc cc)).setCell ⟨v, 6, none⟩ (.slice S ns cs)) := ((Below.refl _ _).setCell (by show p + 1 ≤ v; omega) _).setCell (by show p + 1 ≤ v; omega) _
  refine ⟨h.bg.keep (hk _ (by omega)), h.rr.up hb2, h.bq.keep (hk _ (by omega)), (h.bv.set 5 _).set 6 _, ?_, ?_, ?_, k2, k3, (h.be.setCell (by show w.heap.size ≤ v; omega) _).setCell (by show w.heap.size ≤ v; omega) _, l1, l2, l3, by omega, by omega⟩
  · show Ro _ _ z.A z.n z.c z.L
    rw [hA, hn, hc, hL]
    exact Ro.nil _ _
  · exact (rc.lt (by omega)).keep (fun b hb _ => hk b (by have := hb.1; omega)) |>.mono fun b hb => by have := hb.1; have := hb.2; exact ⟨by omega, by omega, by omega, by omega, by omega⟩
  · exact (rs.lt (by omega)).keep (fun b hb _ => hk b (by have := hb.1; omega)) |>.mono fun b hb => by have := hb.1; have := hb.2; exact ⟨by omega, by omega, by omega, by omega, by omega⟩
theorem DW.push (h : DW w W p q v B s ns5 z) {y : Er} {W2 : World} {A2 : Option Addr} {c2 : Nat} (hy : Rd W (fun b => B ≤ b ∧ z.A.map (·.block) ≠ some b) 1 y.A y.n (bs y.d)) (hy1 : y.n ≤ y.m) (hy2 : y.m ≤ maxLen)
    (ho : W2.ownsRow B 143 4 (.slice A2 (z.n + 1) c2) (z.n + 1) (flat ecell z.L ++ ecell y)) (hg : W.grownBy W2 (z.A.map (·.block))) (hat : A2.map (·.block) = z.A.map (·.block) ∨ A2.map (·.block) = some W.heap.size) :
    DW w (W2.setCell ⟨v, 4, none⟩ (.slice A2 (z.n + 1) c2)) p q v B s ns5 { z with A := A2, n := z.n + 1, c := c2, L := z.L ++ [y] } := by
  obtain ⟨l1, l2, l3, l4, l5⟩ := h.lt
  have hbB : Below B W W2 := ⟨hg.os, hg.tape, hg.output, hg.size, fun i hi => hg.block i (by omega) fun e => by have := (own_lt h.ro.ow i e.symm).1; omega⟩
  have hro := h.ro.push hy hy1 hy2 rfl ho hg hat
  have hk : ∀ b, b < B → b ≠ v → (W2.setCell ⟨v, 4, none⟩ (.slice A2 (z.n + 1) c2)).heap[b]? = W.heap[b]? := fun b h1 h2 => (Below.heap_setCell _ _ _ b h2).trans (hbB.block b h1)
  refine ⟨h.bg.keep (hk _ (by omega) (by omega)), h.rr.up ((hbB.mono (by omega)).setCell (by show p + 1 ≤ v; omega) _), h.bq.keep (hk _ (by omega) (by omega)), (h.bv.keep (hbB.block v (by omega))).set 4 _, ?_, h.rc.keep fun b hb _ => hk b hb.2.1 hb.2.2.2.2, h.rs.keep fun b hb _ => hk b hb.2.1 hb.2.2.2.2, h.k2, h.k3, ?_, l1, l2, l3, l4, ?_⟩
  · exact hro.far (p := ⟨v, 4, none⟩) (by show v < B; omega) _
  · exact (h.be.trans (hbB.mono (by omega))).setCell (by show w.heap.size ≤ v; omega) _
  · have := hbB.size
    simp [World.setCell]
    omega
theorem DW.at (h : DW w W p q v B s ns5 z) : z.At W (w.heap.size < ·) := by
  obtain ⟨l1, l2, l3, l4, l5⟩ := h.lt
  exact ⟨(Rd.of_own h.ro.ow).mono fun b hb => by omega, fun y hy => ⟨(h.ro.dt y hy).1.mono fun b hb => by have := hb.1; omega, (h.ro.dt y hy).2⟩, h.rc.mono fun b hb => hb.1, h.rs.mono fun b hb => hb.1, own_cp h.ro.ow, h.k2, h.k3⟩
end
set_option maxHeartbeats 6400000 in
theorem kdec_any (A : Option Addr) (n c : Nat) (l : List UInt8) (w : World) {ok : Nat → Prop} (hr : Rd w ok 1 A n (bs l)) (h1 : n ≤ c) (h2 : c ≤ maxLen) (hev : EvW w w.heap.size) :
    Calls Tryz.prog 72 #[.slice A n c] w (DecPost w errE (stD l)) := by
  obtain ⟨W0, hW0⟩ : ∃ W0, W0 = w.alloc (.cells z7 35) := ⟨_, rfl⟩
  have b0 : Bx W0 w.heap.size z7 := by subst hW0; exact Bx.new _ _ _ rfl
  have hbe : Below w.heap.size w W0 := by subst hW0; exact (Below.refl _ _).alloc (Nat.le_refl _) _
  have hz : W0.heap.size = w.heap.size + 1 := by subst hW0; simp
  have r0 := ((hr.lt (by omega)).mono fun b hb => hb.2).below hbe
  have hread := read_any A n c l W0 r0 h1 h2 ((hev.below hbe (Nat.le_refl _)).mono (by omega))
  rw [hz] at hread
  obtain ⟨sF, nF, hF0, hF⟩ := five_s l
  obtain ⟨⟨s5, x⟩, hX⟩ : ∃ q, bytesS 512 (sF 5) = q := ⟨_, rfl⟩
  obtain ⟨⟨s6, sn⟩, hSn⟩ : ∃ q, bytesS 1048576 s5 = q := ⟨_, rfl⟩
  obtain ⟨⟨s7, m⟩, hM⟩ : ∃ q, countS 4096 s6 = q := ⟨_, rfl⟩
  obtain ⟨⟨s8, es⟩, hE⟩ : ∃ q, listS m s7 = q := ⟨_, rfl⟩
  have hD : stD l = Raw.fin ⟨nF 0, nF 1, nF 2, nF 3, nF 4, x, sn, es⟩ s8 := stD_eq (stS_eq (hF0 ▸ hF 0) (hF 1) (hF 2) (hF 3) (hF 4) hX hSn hM hE)
  have hnF : ∀ j, nF j ≤ 1099511627776 := fun j => by have := uintS_le 1099511627776 (sF j); rw [hF] at this; exact this
  have hsnm : sn.length ≤ 1048576 := by have := bytesS_le 1048576 s5; rw [hSn] at this; exact this
  have hm : m ≤ 4096 := by have := countS_le 4096 s6; rw [hM] at this; exact this
  have u1 : ∀ W p j, Rr W p (sF j) → Calls Tryz.prog 106 #[.pointer (some ⟨p, 0, none⟩), .int .u64 1099511627776] W (RdPost W p (sF (j + 1)) (.int .u64 (nF j : Nat))) := fun W p j h => by have := uint_rd p _ 1099511627776 W h; rw [hF] at this; exact this
  have u2 : ∀ W p, Rr W p (sF 5) → Calls Tryz.prog 108 #[.pointer (some ⟨p, 0, none⟩), .int .i64 512] W (TakePost W p s5 x) := fun W p h => by have := bytes_rd p _ 512 W h (by omega); rw [hX] at this; exact this
  have u3 : ∀ W p, Rr W p s5 → Calls Tryz.prog 108 #[.pointer (some ⟨p, 0, none⟩), .int .i64 1048576] W (TakePost W p s6 sn) := fun W p h => by have := bytes_rd p _ 1048576 W h (by omega); rw [hSn] at this; exact this
  have u4 : ∀ W p, Rr W p s6 → Calls Tryz.prog 109 #[.pointer (some ⟨p, 0, none⟩), .int .i64 4096] W (RdPost W p s7 (.int .i64 (m : Nat))) := fun W p h => by have := count_rd p _ 4096 W h (by omega); rw [hM] at this; exact this
  have wF : ∀ j, IntKind.i64.wrap ((nF j : Nat) : Int) = (nF j : Nat) := fun j => by have := hnF j; rw [IntKind.wrap_i64]; omega
  have HW := Lib.hid hW0
  have Hread := Lib.hid hread
  have U := Lib.hid (And.intro u1 (And.intro u2 (And.intro u3 u4)))
  have HD := Lib.hid hD
  have HE := Lib.hid hE
  have HF0 := Lib.hid hF0
  have HnF := Lib.hid hnF
  have WF := Lib.hid wF
  have FF := Lib.hid (And.intro b0 (And.intro hbe hz))
  clear hW0 hread u1 u2 u3 u4 hD hE hF0 hF hX hSn hM hnF wF b0 hbe hz hr r0 hev
  go_enter Tryz.func72, Tryz.ntmps72
  go_upto_region 1 with (fail)
  have HW' := HW.out
  unfold z7 at HW'
  rw [← HW']
  clear HW'
  go_wp2_with fail
  refine Hread.out.mono ?_
  rintro e w1 ⟨rfl, R1, hb1⟩
  obtain ⟨Q, hQ⟩ : ∃ Q, w1.heap.size = Q := ⟨_, rfl⟩
  have hg1 : Bx w1 w.heap.size z7 := FF.out.1.keep (hb1.block _ (by omega))
  have hbe1 : Below w.heap.size w w1 := FF.out.2.1.trans (hb1.mono (by omega))
  have hp1 : w.heap.size + 1 < Q := by have := R1.lt; omega
  rw [← HF0.out] at R1
  have G1 := Lib.hid (And.intro R1 (And.intro hg1 (And.intro hbe1 (And.intro hp1 hQ))))
  clear R1 hb1 hg1 hbe1 hp1 hQ
  go_upto_region 3 with (fail)
  have x1 : Bx (w1.alloc (.cells #[.int .i64 0, .int .i64 0, .int .i64 0, .int .i64 0, .int .i64 0] 195)) Q #[.int .i64 0, .int .i64 0, .int .i64 0, .int .i64 0, .int .i64 0] := Bx.new _ _ _ G1.out.2.2.2.2.symm
  rw [G1.out.2.2.2.2]
  have i1 := And.intro (G1.out.1.gb ((Below.refl w1.heap.size w1).alloc (Nat.le_refl _) (.cells #[.int .i64 0, .int .i64 0, .int .i64 0, .int .i64 0, .int .i64 0] 195))) (And.intro (G1.out.2.1.alloc (.cells #[.int .i64 0, .int .i64 0, .int .i64 0, .int .i64 0, .int .i64 0] 195)) (G1.out.2.2.1.alloc (by have := G1.out.2.2.1.size; omega) (.cells #[.int .i64 0, .int .i64 0, .int .i64 0, .int .i64 0, .int .i64 0] 195)))
  have I1 := Lib.hid (And.intro x1 i1)
  clear x1 i1
  go_wp2_with fail
  go_loopg [7, 15] 5 (fun k s7' s15 wr => ∃ (j : Nat) (cs : Array Value), k = 5 - j ∧ j ≤ 5 ∧ s15 = .int .i64 j ∧ cs.size = 5 ∧ (∀ i, i < j → cs[i]? = some (.int .i64 (nF i : Nat))) ∧ Bx wr Q cs ∧ Rr wr (w.heap.size + 1) (sF j) ∧ Bx wr w.heap.size z7 ∧ Below w.heap.size w wr)
  case atStart => exact ⟨0, _, by omega, by omega, rfl, rfl, fun i hi => absurd hi (by omega), I1.out.1, I1.out.2.1, I1.out.2.2.1, I1.out.2.2.2⟩
  case round =>
    obtain ⟨j, cs, hk, hj, rfl, hcs, hci, hbq, hrr, hbg, hbe⟩ := hrel
    have Hk := Lib.hid hk
    have J := Lib.hid (And.intro hcs (And.intro hci (And.intro hbq (And.intro hrr (And.intro hbg hbe)))))
    clear hk hcs hci hbq hrr hbg hbe
    by_cases hlt : j < 5
    · have hltI : (j : Int) < 5 := by omega
      have h0I : (0 : Int) ≤ j := by omega
      have wj := WF.out j
      go_wp2_with fail
      refine (U.out.1 wr _ j J.out.2.2.2.1).mono ?_
      rintro e w3 ⟨rfl, R3, g3⟩
      have hQp : Q ≠ w.heap.size + 1 := by have := G1.out.2.2.2.1; omega
      have q3 : Bx w3 Q cs := J.out.2.2.1.grown g3 (fun e => hQp (by injection e with e; exact e.symm))
      obtain ⟨vj, hvj⟩ : ∃ vj, cs[j]? = some vj := ⟨_, Array.getElem?_eq_getElem (by have := J.out.1; omega)⟩
      have cj : w3.cell? ⟨Q, j, none⟩ = some vj := (q3.c j).trans hvj
      have fj : w3.frozen? ⟨Q, j, none⟩ = false := q3.f j
      have K3 := Lib.hid (And.intro R3 (And.intro g3 q3))
      clear R3 g3 q3 hvj
      go_wp2_with fail
      go_roundg (5 - (j + 1))
      case measure => have := Hk.out; omega
      case rel =>
        have hpQ := G1.out.2.2.2.1
        refine ⟨j + 1, cs.setIfInBounds j (.int .i64 (nF j : Nat)), rfl, by omega, by go_num, by simp [J.out.1], fun i hi => ?_, K3.out.2.2.set j _, K3.out.1.up ((Below.refl _ _).setCell (by show w.heap.size + 1 + 1 ≤ Q; omega) _), (J.out.2.2.2.2.1.grown K3.out.2.1 (fun e => by injection e with e; omega)).far (by show w.heap.size ≠ Q; omega) _, ?_⟩
        · by_cases hij : j = i
          · subst hij
            rw [Array.getElem?_setIfInBounds_self_of_lt (by have := J.out.1; omega)]
          · rw [Array.getElem?_setIfInBounds_ne hij]
            exact J.out.2.1 i (by omega)
        · exact (J.out.2.2.2.2.2.grown K3.out.2.1 J.out.2.2.2.2.2.size (fun q hq => by injection hq with hq; omega)).setCell (by show w.heap.size ≤ Q; omega) _
    · obtain rfl : j = 5 := by omega
      have bq := J.out.2.2.1
      have y0 := (bq.c 0).trans (J.out.2.1 0 (by omega))
      have y1 := (bq.c 1).trans (J.out.2.1 1 (by omega))
      have y2 := (bq.c 2).trans (J.out.2.1 2 (by omega))
      have y3 := (bq.c 3).trans (J.out.2.1 3 (by omega))
      have y4 := (bq.c 4).trans (J.out.2.1 4 (by omega))
      clear bq
      go_upto_region 9 with (fail)
      obtain ⟨V, hV⟩ : ∃ V, wr.heap.size = V := ⟨_, rfl⟩
      obtain ⟨W9, hW9⟩ : ∃ W9, W9 = wr.alloc (.cells #[.int .i64 (nF 1 : Nat), .int .i64 (nF 2 : Nat), .int .i64 (nF 3 : Nat), .int .i64 (nF 4 : Nat), .slice none 0 0, .slice none 0 0, .slice none 0 0] 35) := ⟨_, rfl⟩
      have hQV : Q < V := by have := J.out.2.2.1.lt; omega
      have hpQ := G1.out.2.2.2.1
      have d9 : DW w W9 (w.heap.size + 1) Q V (V + 1) (sF 5) cs ⟨(nF 1 : Nat), (nF 2 : Nat), (nF 3 : Nat), (nF 4 : Nat), none, 0, 0, [], none, 0, 0, [], none, 0, 0, []⟩ := by
        subst hW9
        refine ⟨J.out.2.2.2.2.1.alloc _, J.out.2.2.2.1.gb ((Below.refl _ _).alloc (Nat.le_refl _) _), J.out.2.2.1.alloc _, Bx.new _ _ _ hV.symm, Ro.nil _ _, Rd.none_, Rd.none_, ⟨Nat.le_refl _, Nat.zero_le _⟩, ⟨Nat.le_refl _, Nat.zero_le _⟩, J.out.2.2.2.2.2.alloc J.out.2.2.2.2.2.size _, by omega, by omega, by omega, by omega, by simp; omega⟩
      have e9 : W9.heap.size = V + 1 := by subst hW9; simp [hV]
      rw [hV, ← hW9]
      have y0' := J.out.2.1 0 (by omega)
      have Y0 := Lib.hid y0'
      have D9 := Lib.hid (And.intro d9 e9)
      clear hW9 d9 e9 y0 y1 y2 y3 y4 y0'
      go_wp2_with fail
      refine (U.out.2.1 W9 _ D9.out.1.rr).mono ?_
      rintro e w4 ⟨A4, n4, c4, rfl, o4, R4, g4⟩
      have d4 := D9.out.1.gb R4 g4
      have r4 := (Rd.of_own o4).any
      have hc4 := own_cp o4
      have hcd := cdec_any A4 n4 c4 x w4 r4 hc4.1 hc4.2 (R4.ev.mono (by have := R4.lt; omega))
      have D4 := Lib.hid (And.intro d4 g4.size)
      have Hcd := Lib.hid hcd
      clear d4 r4 hc4 o4 R4 g4 hcd
      go_wp2_with fail
      refine Hcd.out.mono ?_
      intro e w5 hpost
      obtain ⟨C, nc, cc, cf, kb, rfl, oC, hb5, hkb⟩ : ∃ C nc cc cf kb, e = .returned (.tuple #[.slice C nc cc, errE kb]) ∧ w5.ownsRow w4.heap.size 3 1 (.slice C nc cc) nc (ii cf) ∧ Below w4.heap.size w4 w5 ∧ ((kb = 0 ∧ confD x = some cf) ∨ (kb ≠ 0 ∧ confD x = none)) := by
        obtain ⟨oc, hoc⟩ : ∃ oc, confD x = oc := ⟨_, rfl⟩
        rw [hoc] at hpost ⊢
        cases oc with
        | none =>
          rw [CdPost_none] at hpost
          exact ⟨none, 0, 0, [], 3, hpost.1, World.ownsRow_nil _ _ _ _, hpost.2, .inr ⟨by decide, rfl⟩⟩
        | some cf =>
          rw [CdPost_some] at hpost
          obtain ⟨C, nc, cc, h3, h4, h5⟩ := hpost
          exact ⟨C, nc, cc, cf, 0, h3, h4, h5, .inl ⟨rfl, rfl⟩⟩
      clear hpost
      have d5 := D4.out.1.below hb5
      have rC := (Rd.of_own oC).mono (ok' := (V < ·)) fun b hb => by have := D4.out.2; have := D9.out.2; omega
      have D5 := Lib.hid (And.intro d5 (And.intro rC (And.intro (own_cp oC) hkb)))
      have s45 : V < w5.heap.size := by have := hb5.size; have := D4.out.2; have := D9.out.2; omega
      clear d5 rC oC hb5 hkb
      go_wp2_with fail
      refine (U.out.2.2.1 w5 _ D5.out.1.rr).mono ?_
      rintro e w6 ⟨S, ns, cs6, rfl, oS, R6, g6⟩
      have d6 := D5.out.1.gb R6 g6
      have rC6 : Rd w6 (V < ·) 1 C nc (ii cf) := D5.out.2.1.keep fun b hb hl => g6.block b hl (fun e => by injection e with e; omega)
      have rS6 := (Rd.of_own oS).mono (ok' := (V < ·)) fun b hb => by omega
      have d7 := d6.fill rfl rfl rfl rfl rC6 rS6 D5.out.2.2.1 (own_cp oS)
      have hsnl := rS6.blen
      obtain ⟨v0, v1, v2, v3, v4, v5, v6⟩ := Sv.c7 d6.bv
      have f5 := d6.bv.f 5
      have f6 := d6.bv.f 6
      have z6 : w5.heap.size ≤ w6.heap.size := g6.size
      have D7 := Lib.hid (And.intro d7 hsnl)
      clear d6 rC6 rS6 d7 R6 g6 oS hsnl
      go_upto_region 11 with (fail)
      obtain ⟨W7, hW7⟩ : ∃ W7, W7 = (w6.setCell ⟨V, 5, none⟩ (.slice C nc cc)).setCell ⟨V, 6, none⟩ (.slice S ns cs6) := ⟨_, rfl⟩
      have d7 := D7.out.1
      have hsz7 : W7.heap.size = w6.heap.size := by subst hW7; simp [World.setCell]
      rw [← hW7] at d7 ⊢
      have D7b := Lib.hid (And.intro d7 (And.intro D7.out.2 hsz7))
      clear hW7 d7 hsz7 v0 v1 v2 v3 v4 v5 v6 f5 f6 D7
      go_wp2_with fail
      refine (U.out.2.2.2 W7 _ D7b.out.1.rr).mono ?_
      rintro e w8 ⟨rfl, R8, g8⟩
      have d8 := D7b.out.1.gb R8 g8
      have D8 := Lib.hid (And.intro d8 (And.intro D7b.out.2.1 g8.size))
      clear d8 R8 g8
      obtain ⟨B, hB⟩ : ∃ B, w6.heap.size = B := ⟨_, rfl⟩
      rw [hB] at D8
      have hmI : (m : Int) ≤ 4096 := by omega
      go_wp2_with fail
      go_loopg [11, 12, 47] m (fun k s11 s12 s47 wr => ∃ (j : Nat) (sj : RdS) (Aj : Option Addr) (cj : Nat) (Lj : List Er) (acc : List EnS), k = m - j ∧ j ≤ m ∧ s47 = .int .i64 j ∧ DW w wr (w.heap.size + 1) Q V B sj cs ⟨(nF 1 : Nat), (nF 2 : Nat), (nF 3 : Nat), (nF 4 : Nat), Aj, j, cj, Lj, C, nc, cc, cf, S, ns, cs6, sn⟩ ∧ Lj.map en = acc.map ofS ∧ (∀ y ∈ Lj, W64 y ∧ y.n ≤ 1000000) ∧ (listS m s7).1 = (listS (m - j) sj).1 ∧ (listS m s7).2 = (listS (m - j) sj).2.map (acc ++ ·))
      case atStart => exact ⟨0, s7, none, 0, [], [], by omega, by omega, rfl, D8.out.1, rfl, (fun y hy => by cases hy), rfl, by simp⟩
      case round =>
        obtain ⟨j, sj, Aj, cj, Lj, acc, hk2, hj2, rfl, hdw, hmap, hw64, hls1, hls2⟩ := hrel
        have Hk2 := Lib.hid hk2
        have J2 := Lib.hid (And.intro hdw (And.intro hmap (And.intro hw64 (And.intro hls1 hls2))))
        clear hk2 hdw hmap hw64 hls1 hls2
        by_cases hlt2 : j < m
        · have hltI : (j : Int) < m := by omega
          obtain ⟨⟨s', d⟩, hbd⟩ : ∃ q, bytesS 4200 sj = q := ⟨_, rfl⟩
          have u5 : ∀ W p, Rr W p sj → Calls Tryz.prog 108 #[.pointer (some ⟨p, 0, none⟩), .int .i64 4200] W (TakePost W p s' d) := fun W p h => by have := bytes_rd p _ 4200 W h (by omega); rw [hbd] at this; exact this
          have U5 := Lib.hid u5
          have Hbd := Lib.hid hbd
          clear u5 hbd
          go_wp2_with fail
          refine (U5.out wr _ J2.out.1.rr).mono ?_
          rintro e w10 ⟨A1, n1, c1, rfl, o1, R10, g10⟩
          have d10 := J2.out.1.gb R10 g10
          have hc1 := own_cp o1
          have hdec := decode_any A1 n1 c1 d w10 ((Rd.of_own o1).any) hc1.1 hc1.2 (R10.ev.mono (by have := R10.lt; omega))
          have D10 := Lib.hid (And.intro d10 g10.size)
          obtain ⟨oe, hoe⟩ : ∃ oe, entD d = oe := ⟨_, rfl⟩
          rw [hoe] at hdec
          have Hdec := Lib.hid hdec
          have Hoe := Lib.hid hoe
          clear d10 hc1 hdec o1 R10 g10 hoe
          cases oe with
          | none =>
            go_wp2_with fail
            refine Hdec.out.mono ?_
            rintro e w11 ⟨rfl, hb11⟩
            have d11 := D10.out.1.below hb11
            have hno : stD l = none := by
              have h3 : listS (m - j) sj = (s', none) := by
                rw [show m - j = (m - j - 1) + 1 from by omega]
                exact listS_none Hbd.out Hoe.out
              have h4 := J2.out.2.2.2.2
              rw [h3, HE.out] at h4
              have h5 : es = none := h4
              rw [HD.out, Raw.fin_eq (oe := none) h5 rfl, finS_es]
            have D11 := Lib.hid (And.intro d11 hno)
            clear hb11 d11 hno
            have e3 : errE 3 = .iface 69 (.int .i64 3) := rfl
            rw [e3]
            go_upto_region 15 with (fail)
            have d12 := D11.out.1.below ((Below.refl w11.heap.size w11).alloc (Nat.le_refl _) (.cells #[.int .i64 0, .int .i64 0, .int .i64 0, .slice none 0 0] 143))
            have bgN := (d12).bg
            have beN := (d12).be
            have q0 := bgN.c 0
            have p0 := bgN.f 0
            have q1 := bgN.c 1
            have p1 := bgN.f 1
            have q2 := bgN.c 2
            have p2 := bgN.f 2
            have q3 := bgN.c 3
            have p3 := bgN.f 3
            have q4 := bgN.c 4
            have p4 := bgN.f 4
            have q5 := bgN.c 5
            have p5 := bgN.f 5
            have q6 := bgN.c 6
            have p6 := bgN.f 6
            have HN := Lib.hid (And.intro beN (D11.out.2))
            clear bgN beN
            unfold z7 at *
            go_wp2_with fail
            refine bodyPost_ret (by simp [results, Tryz.results72, go_sem, q0, q1, q2, q3, q4, q5, q6]; rfl) rfl ?_
            rw [HN.out.2, DecPost_none]
            refine ⟨rfl, ?_⟩
            iterate 7 refine Below.setCell ?_ (by exact Nat.le_refl _) _
            exact HN.out.1
          | some xe =>
            go_wp2_with fail
            refine Hdec.out.mono ?_
            intro e w11 hpost
            rw [EntPost_some] at hpost
            obtain ⟨A5, n5, c5, rfl, r5, hn5, hc5, hb11⟩ := hpost
            have d11 := D10.out.1.below hb11
            have e0 : errE 0 = .nilIface := rfl
            rw [e0]
            obtain ⟨W12, hW12⟩ : ∃ W12, W12 = w11.alloc (.cells #[.int .i64 (xe.1 : Nat), .int .i64 (xe.2.1 : Nat), .int .i64 (xe.2.2.1 : Nat), .slice A5 n5 c5] 143) := ⟨_, rfl⟩
            have hb12 : Below w11.heap.size w11 W12 := by subst hW12; exact (Below.refl _ _).alloc (Nat.le_refl _) _
            have x12 : Bx W12 w11.heap.size #[.int .i64 (xe.1 : Nat), .int .i64 (xe.2.1 : Nat), .int .i64 (xe.2.2.1 : Nat), .slice A5 n5 c5] := by subst hW12; exact Bx.new _ _ _ rfl
            have d12 := d11.below hb12
            have r12 := r5.below hb12
            have hxe : entS (d, 0) = ((entS (d, 0)).1, xe) ∧ xe.1 ≤ 1099511627776 ∧ xe.2.1 ≤ 1099511627776 ∧ xe.2.2.1 ≤ 2 ∧ xe.2.2.2.length ≤ 4096 := entD_le Hoe.out
            go_upto_region 16 with (fail)
            rw [← hW12]
            obtain ⟨i0, i1, i2, i3, -⟩ := x12.c4
            obtain ⟨v0, v1, v2, v3, v4, v5, v6⟩ := Sv.c7 d12.bv
            have f4 := d12.bv.f 4
            have s12 := hb12.size
            have s11 := hb11.size
            have s10 := D10.out.2
            have D12 := Lib.hid (And.intro d12 (And.intro r12 (And.intro hn5 (And.intro hc5 hxe))))
            clear hW12 hb12 x12 d12 r12 hn5 hc5 hxe hb11 d11 r5
            go_wp2_with (at_builtin; refine wpList_append_any (news := [.int .i64 (xe.1 : Nat), .int .i64 (xe.2.1 : Nat), .int .i64 (xe.2.2.1 : Nat), .slice A5 n5 c5]) _ Tryz.underlying29 ent_elem rfl (by omega) rfl rfl rfl (D12.out.1.ro.alloc _).ow rfl (show Rd (W12.alloc (.cells #[.int .i64 (xe.1 : Nat), .int .i64 (xe.2.1 : Nat), .int .i64 (xe.2.2.1 : Nat), .slice A5 n5 c5] 143)) T 4 (some ⟨W12.heap.size, 0, none⟩) 1 [.int .i64 (xe.1 : Nat), .int .i64 (xe.2.1 : Nat), .int .i64 (xe.2.2.1 : Nat), .slice A5 n5 c5] from (Rd.lit4 _ _ rfl)) (by intro u hu; simp only [List.mem_cons, List.not_mem_nil, or_false] at hu; rcases hu with rfl | rfl | rfl | rfl <;> rfl) (by omega) (by have := D12.out.1.lt.2.2.2.2; simp; omega) rfl rfl ?_; intro A6 c7 w13 hown13 hg13 hat13; have x13 := ((D12.out.1.bv.alloc (.cells #[.int .i64 (xe.1 : Nat), .int .i64 (xe.2.1 : Nat), .int .i64 (xe.2.2.1 : Nat), .slice A5 n5 c5] 143)).grown hg13 (fun e => by have := (own_lt D12.out.1.ro.ow V e).1; have := D12.out.1.lt; omega)); have m4 := x13.c 4; have m4f := x13.f 4)
            go_roundg (m - (j + 1))
            case measure => have := Hk2.out; omega
            case rel =>
              have hrow : ∀ b, Aj.map (·.block) = some b → b < w10.heap.size := fun b hb => (own_lt D10.out.1.ro.ow b hb).2
              have hBw : B ≤ w10.heap.size := D10.out.1.lt.2.2.2.2
              have hy : Rd (W12.alloc (.cells #[.int .i64 (xe.1 : Nat), .int .i64 (xe.2.1 : Nat), .int .i64 (xe.2.2.1 : Nat), .slice A5 n5 c5] 143)) (fun b => B ≤ b ∧ Aj.map (·.block) ≠ some b) 1 A5 n5 (bs xe.2.2.2) := (D12.out.2.1.alloc _).mono fun b hb => ⟨by omega, fun e => by have := hrow b e; omega⟩
              have dF := (D12.out.1.below ((Below.refl _ _).alloc (Nat.le_refl _) (.cells #[.int .i64 (xe.1 : Nat), .int .i64 (xe.2.1 : Nat), .int .i64 (xe.2.2.1 : Nat), .slice A5 n5 c5] 143))).push (y := ⟨(xe.1 : Nat), (xe.2.1 : Nat), (xe.2.2.1 : Nat), A5, n5, c5, xe.2.2.2⟩) hy D12.out.2.2.1 D12.out.2.2.2.1 hown13 hg13 hat13
              have hls : listS (m - j) sj = ((listS (m - (j + 1)) s').1, (listS (m - (j + 1)) s').2.map (xe :: ·)) := by
                rw [show m - j = (m - (j + 1)) + 1 from by omega]
                exact listS_some Hbd.out Hoe.out
              have hn5 : n5 = xe.2.2.2.length := D12.out.2.1.blen.symm
              obtain ⟨_, ke1, ke2, ke3, ke4⟩ := D12.out.2.2.2.2
              refine ⟨j + 1, s', A6, c7, Lj ++ [⟨(xe.1 : Nat), (xe.2.1 : Nat), (xe.2.2.1 : Nat), A5, n5, c5, xe.2.2.2⟩], acc ++ [xe], rfl, by omega, by go_num, dF, ?_, ?_, ?_, ?_⟩
              · rw [List.map_append, List.map_append, J2.out.2.1]
                rfl
              · intro y hy
                rcases List.mem_append.1 hy with hy | hy
                · exact J2.out.2.2.1 y hy
                · obtain rfl := List.mem_singleton.1 hy
                  refine ⟨⟨?_, ?_, ?_⟩, ?_⟩ <;> (dsimp only; try unfold I64) <;> omega
              · rw [J2.out.2.2.2.1, hls]
              · rw [J2.out.2.2.2.2, hls, Option.map_map]
                congr 1
                funext r
                simp
        · obtain rfl : j = m := by omega
          have hes : es = some acc := by
            have h4 := J2.out.2.2.2.2
            rw [HE.out, Nat.sub_self, listS_zero] at h4
            simpa using h4
          have hs8 : s8 = sj := by
            have h4 := J2.out.2.2.2.1
            rw [HE.out, Nat.sub_self, listS_zero] at h4
            exact h4
          have hdn := done_rd _ _ wr J2.out.1.rr
          have hD2 : stD l = finS (doneS sj) (nF 0) (fun es cf => ⟨(nF 1 : Nat), (nF 2 : Nat), (nF 3 : Nat), (nF 4 : Nat), es.map ofS, cf, sn⟩) (some acc) (confD x) := by
            rw [HD.out, ← hs8]
            exact Raw.fin_eq hes rfl
          have bQ := J2.out.1.bq
          have hQ0 : wr.cell? ⟨Q, 0, none⟩ = some (.int .i64 (nF 0 : Nat)) := (bQ.c 0).trans Y0.out
          obtain ⟨v0, v1, v2, v3, v4, v5, v6⟩ := Sv.c7 J2.out.1.bv
          have Hdn := Lib.hid hdn
          have HD2 := Lib.hid hD2
          clear hdn hD2 hes hs8 bQ
          go_wp2_with fail
          refine Hdn.out.mono ?_
          rintro e w14 ⟨rfl, rfl⟩
          by_cases hd0 : doneS sj = 0
          · rw [hd0, errE0]
            rcases D5.out.2.2.2 with ⟨hk0, hcf⟩ | ⟨hk0, hcf⟩
            · rw [hk0, errE0]
              have hD3 : stD l = if 1 ≤ nF 0 ∧ St.may ⟨(nF 1 : Nat), (nF 2 : Nat), (nF 3 : Nat), (nF 4 : Nat), acc.map ofS, cf, sn⟩ = true then some (nF 0, ⟨(nF 1 : Nat), (nF 2 : Nat), (nF 3 : Nat), (nF 4 : Nat), acc.map ofS, cf, sn⟩) else none := by
                rw [HD2.out, hcf, hd0, finS_some]
                by_cases hq : 1 ≤ nF 0 ∧ St.may ⟨(nF 1 : Nat), (nF 2 : Nat), (nF 3 : Nat), (nF 4 : Nat), acc.map ofS, cf, sn⟩ = true
                · rw [if_pos ⟨rfl, hq⟩, if_pos hq]
                · rw [if_neg (fun h => hq h.2), if_neg hq]
              have HD3 := Lib.hid hD3
              have Hcf := Lib.hid hcf
              clear hD3 hk0 hcf hd0
              by_cases hn0 : 1 ≤ nF 0
              · have hn0d : decide (((nF 0 : Nat) : Int) < 1) = false := decide_eq_false (by omega)
                obtain ⟨z, hz⟩ : ∃ z : Sv, z = ⟨(nF 1 : Nat), (nF 2 : Nat), (nF 3 : Nat), (nF 4 : Nat), Aj, j, cj, Lj, C, nc, cc, cf, S, ns, cs6, sn⟩ := ⟨_, rfl⟩
                have hfit : z.Fit := by
                  have c1 := ii_len J2.out.1.rc
                  have c2 := (cmay_small (confD_may Hcf.out)).2.1
                  have c3 : sn.length = ns := D7b.out.2.1
                  have c4 := HnF.out
                  subst hz
                  refine ⟨⟨?_, ?_, ?_, ?_⟩, J2.out.2.2.1, by dsimp only; omega, by dsimp only at c1 ⊢; omega, by dsimp only; omega⟩
                  · have := c4 1; dsimp only; unfold I64; omega
                  · have := c4 2; dsimp only; unfold I64; omega
                  · have := c4 3; dsimp only; unfold I64; omega
                  · have := c4 4; dsimp only; unfold I64; omega
                have hat := J2.out.1.at
                rw [← hz] at hat
                have hst : z.st = ⟨(nF 1 : Nat), (nF 2 : Nat), (nF 3 : Nat), (nF 4 : Nat), acc.map ofS, cf, sn⟩ := by
                  subst hz
                  unfold Sv.st
                  dsimp only
                  rw [J2.out.2.1]
                have hmy := kmay_any z w14 hat hfit (J2.out.1.rr.ev.mono (by have := J2.out.1.rr.lt; omega))
                have hD4 := HD3.out
                rw [hst] at hmy
                have hzv : z.val = .agg #[.int .i64 (nF 1 : Nat), .int .i64 (nF 2 : Nat), .int .i64 (nF 3 : Nat), .int .i64 (nF 4 : Nat), .slice Aj j cj, .slice C nc cc, .slice S ns cs6] := by subst hz; rfl
                rw [hzv] at hmy
                obtain ⟨q, hq⟩ : ∃ q, St.may ⟨(nF 1 : Nat), (nF 2 : Nat), (nF 3 : Nat), (nF 4 : Nat), acc.map ofS, cf, sn⟩ = q := ⟨_, rfl⟩
                rw [hq] at hmy hD4
                have Hmy := Lib.hid hmy
                have HD4 := Lib.hid hD4
                have HZ := Lib.hid (And.intro hz (And.intro hfit (And.intro hst hzv)))
                clear hmy hD4 hz hfit hat hst hzv hq
                cases q
                · go_wp2_with fail
                  refine Hmy.out.mono ?_
                  rintro e w15 ⟨rfl, hb15⟩
                  have d15 := J2.out.1.below hb15
                  have hno : stD l = none := by rw [HD4.out, if_neg (fun h => by cases h.2)]
                  have D15 := Lib.hid (And.intro d15 hno)
                  clear hb15 d15 hno v0 v1 v2 v3 v4 v5 v6 hQ0
                  have bgN := (D15.out.1).bg
                  have beN := (D15.out.1).be
                  have q0 := bgN.c 0
                  have p0 := bgN.f 0
                  have q1 := bgN.c 1
                  have p1 := bgN.f 1
                  have q2 := bgN.c 2
                  have p2 := bgN.f 2
                  have q3 := bgN.c 3
                  have p3 := bgN.f 3
                  have q4 := bgN.c 4
                  have p4 := bgN.f 4
                  have q5 := bgN.c 5
                  have p5 := bgN.f 5
                  have q6 := bgN.c 6
                  have p6 := bgN.f 6
                  have HN := Lib.hid (And.intro beN (D15.out.2))
                  clear bgN beN
                  unfold z7 at *
                  go_wp2_with fail
                  refine bodyPost_ret (by simp [results, Tryz.results72, go_sem, q0, q1, q2, q3, q4, q5, q6]; rfl) rfl ?_
                  rw [HN.out.2, DecPost_none]
                  refine ⟨rfl, ?_⟩
                  iterate 7 refine Below.setCell ?_ (by exact Nat.le_refl _) _
                  exact HN.out.1
                · go_wp2_with fail
                  refine Hmy.out.mono ?_
                  rintro e w15 ⟨rfl, hb15⟩
                  have d15 := J2.out.1.below hb15
                  have hyes : stD l = some (nF 0, ⟨(nF 1 : Nat), (nF 2 : Nat), (nF 3 : Nat), (nF 4 : Nat), acc.map ofS, cf, sn⟩) := by rw [HD4.out, if_pos ⟨hn0, by trivial⟩]
                  have D15 := Lib.hid (And.intro d15 hyes)
                  clear hb15 hyes v0 v1 v2 v3 v4 v5 v6 hQ0
                  have hQ0 : w15.cell? ⟨Q, 0, none⟩ = some (.int .i64 (nF 0 : Nat)) := (d15.bq.c 0).trans Y0.out
                  obtain ⟨v0, v1, v2, v3, v4, v5, v6⟩ := Sv.c7 d15.bv
                  have bgN := d15.bg
                  have q0 := bgN.c 0
                  have p0 := bgN.f 0
                  have q1 := bgN.c 1
                  have p1 := bgN.f 1
                  have q2 := bgN.c 2
                  have p2 := bgN.f 2
                  have q3 := bgN.c 3
                  have p3 := bgN.f 3
                  have q4 := bgN.c 4
                  have p4 := bgN.f 4
                  have q5 := bgN.c 5
                  have p5 := bgN.f 5
                  have q6 := bgN.c 6
                  have p6 := bgN.f 6
                  have FS : ∀ W, (Bx W Q cs ∧ Bx W V (Sv.cells ⟨(nF 1 : Nat), (nF 2 : Nat), (nF 3 : Nat), (nF 4 : Nat), Aj, j, cj, Lj, C, nc, cc, cf, S, ns, cs6, sn⟩)) → W.cell? ⟨Q, 0, none⟩ = some (.int .i64 (nF 0 : Nat)) ∧ W.cell? ⟨V, 0, none⟩ = some (.int .i64 (nF 1 : Nat)) ∧ W.cell? ⟨V, 1, none⟩ = some (.int .i64 (nF 2 : Nat)) ∧ W.cell? ⟨V, 2, none⟩ = some (.int .i64 (nF 3 : Nat)) ∧ W.cell? ⟨V, 3, none⟩ = some (.int .i64 (nF 4 : Nat)) ∧ W.cell? ⟨V, 4, none⟩ = some (.slice Aj j cj) ∧ W.cell? ⟨V, 5, none⟩ = some (.slice C nc cc) ∧ W.cell? ⟨V, 6, none⟩ = some (.slice S ns cs6) := fun W h => ⟨(h.1.c 0).trans Y0.out, Sv.c7 h.2⟩
                  have FSh := Lib.hid FS
                  have s15 : Bx w15.drew Q cs ∧ Bx w15.drew V (Sv.cells ⟨(nF 1 : Nat), (nF 2 : Nat), (nF 3 : Nat), (nF 4 : Nat), Aj, j, cj, Lj, C, nc, cc, cf, S, ns, cs6, sn⟩) := ⟨d15.bq.drew, d15.bv.drew⟩
                  have hS15 := Lib.hid s15
                  have hB15 := Lib.hid (And.intro d15.bq d15.bv)
                  clear FS s15 d15 bgN v0 v1 v2 v3 v4 v5 v6 hQ0
                  unfold z7 at *
                  go_upto_region 20 with (fail)
                  refine wp_region_S 5 (fun W => Bx W Q cs ∧ Bx W V (Sv.cells ⟨(nF 1 : Nat), (nF 2 : Nat), (nF 3 : Nat), (nF 4 : Nat), Aj, j, cj, Lj, C, nc, cc, cf, S, ns, cs6, sn⟩)) (.take 0 (.take 1 (.take 2 (.take 3 (.one 4 (.one 5 (.nil))))))) (by kernel_rfl) hS15.out (fun _ _ _ _ h => h) (fun hS => ?_)
                  repeat (first
                    | (refine wpS_take (v := ?_) rfl rfl (by rfl) ?_ ?_; rotate_left; (intro W hW; have hf := FSh.out W hW; go_split_ands; go_simp; try with_reducible rfl); try simp only [Act.put, List.setIfInBounds_toArray, List.set_cons_zero, List.set_cons_succ])
                    | (refine wpS_skip rfl rfl (by rfl) ?_; try simp only [Act.put, List.setIfInBounds_toArray, List.set_cons_zero, List.set_cons_succ]))
                  refine wpS_one rfl (by rfl) (fun K hK => ?_)
                  go_simp
                  have hQg : Q ≠ w.heap.size := by have := D15.out.1.lt; omega
                  have hVg : V ≠ w.heap.size := by have := D15.out.1.lt; omega
                  refine hK (fun W => Bx W Q cs ∧ Bx W V (Sv.cells ⟨(nF 1 : Nat), (nF 2 : Nat), (nF 3 : Nat), (nF 4 : Nat), Aj, j, cj, Lj, C, nc, cc, cf, S, ns, cs6, sn⟩)) _ _ (fun _ h => h) ⟨(((((((hB15.out.1.far hQg _).far hQg _).far hQg _).far hQg _).far hQg _).far hQg _).far hQg _).drew, (((((((hB15.out.2.far hVg _).far hVg _).far hVg _).far hVg _).far hVg _).far hVg _).far hVg _).drew⟩ ?_
                  clear hK K
                  try simp only [Act.put, List.setIfInBounds_toArray, List.set_cons_zero, List.set_cons_succ]
                  refine wpS_last rfl (by rfl) (fun K hK => ?_)
                  go_simp
                  refine hK _ _ ?_
                  clear hK K
                  try simp only [Act.put, List.setIfInBounds_toArray, List.set_cons_zero, List.set_cons_succ]
                  refine wpS_nil ?_
                  clear hQg hVg hS q0 q1 q2 q3 q4 q5 q6 p0 p1 p2 p3 p4 p5 p6
                  go_wp2_with fail
                  obtain ⟨W16, hW16⟩ : ∃ W16, W16 = (((((((w15.setCell ⟨w.heap.size, 0, none⟩ (.int .i64 (nF 1 : Nat))).setCell ⟨w.heap.size, 1, none⟩ (.int .i64 (nF 2 : Nat))).setCell ⟨w.heap.size, 2, none⟩ (.int .i64 (nF 3 : Nat))).setCell ⟨w.heap.size, 3, none⟩ (.int .i64 (nF 4 : Nat))).setCell ⟨w.heap.size, 4, none⟩ (.slice Aj j cj)).setCell ⟨w.heap.size, 5, none⟩ (.slice C nc cc)).setCell ⟨w.heap.size, 6, none⟩ (.slice S ns cs6)).drew := ⟨_, rfl⟩
                  have x16 : Bx W16 w.heap.size (Sv.cells ⟨(nF 1 : Nat), (nF 2 : Nat), (nF 3 : Nat), (nF 4 : Nat), Aj, j, cj, Lj, C, nc, cc, cf, S, ns, cs6, sn⟩) := by
                    rw [hW16]
                    exact (Bx.set7 D15.out.1.bg _ _ _ _ _ _ _).drew
                  have hk : ∀ b, b ≠ w.heap.size → W16.heap[b]? = w15.heap[b]? := fun b hb => by
                    rw [hW16]
                    exact keep7d hb _ _ _ _ _ _ _
                  have a16 := D15.out.1.at.keep (W' := W16) fun b hb _ => hk b (by have hb' : w.heap.size < b := hb; omega)
                  have b16 : Below w.heap.size w W16 := by
                    rw [hW16]
                    exact (below7 D15.out.1.be _ _ _ _ _ _ _).drew
                  rw [← hW16]
                  have K16 := Lib.hid (And.intro a16 b16)
                  clear hW16 a16 b16
                  obtain ⟨ty16, hg16⟩ := x16.hp
                  clear x16
                  refine bodyPost_ret (results_tmp_row_tmp rfl _ _ w.heap.size _ _ (0, 0) _ rfl hg16 Tryz.underlying35 rfl (by kernel_rfl)) rfl ?_
                  rw [D15.out.2, DecPost_some]
                  have hz := HZ.out
                  rw [hz.1] at hz
                  exact ⟨⟨(nF 1 : Nat), (nF 2 : Nat), (nF 3 : Nat), (nF 4 : Nat), Aj, j, cj, Lj, C, nc, cc, cf, S, ns, cs6, sn⟩, rfl, K16.out.1, hz.2.2.1, hz.2.1, K16.out.2⟩
              · have hn0d : decide (((nF 0 : Nat) : Int) < 1) = true := decide_eq_true (by omega)
                have hno : stD l = none := by rw [HD3.out, if_neg (fun h => hn0 h.1)]
                have D15 := Lib.hid (And.intro J2.out.1 hno)
                clear hno v0 v1 v2 v3 v4 v5 v6
                have bgN := (D15.out.1).bg
                have beN := (D15.out.1).be
                have q0 := bgN.c 0
                have p0 := bgN.f 0
                have q1 := bgN.c 1
                have p1 := bgN.f 1
                have q2 := bgN.c 2
                have p2 := bgN.f 2
                have q3 := bgN.c 3
                have p3 := bgN.f 3
                have q4 := bgN.c 4
                have p4 := bgN.f 4
                have q5 := bgN.c 5
                have p5 := bgN.f 5
                have q6 := bgN.c 6
                have p6 := bgN.f 6
                have HN := Lib.hid (And.intro beN (D15.out.2))
                clear bgN beN
                unfold z7 at *
                go_wp2_with fail
                refine bodyPost_ret (by simp [results, Tryz.results72, go_sem, q0, q1, q2, q3, q4, q5, q6]; rfl) rfl ?_
                rw [HN.out.2, DecPost_none]
                refine ⟨rfl, ?_⟩
                iterate 7 refine Below.setCell ?_ (by exact Nat.le_refl _) _
                exact HN.out.1
            · rw [errE_ne hk0]
              have hno : stD l = none := by rw [HD2.out, hcf, finS_cf]
              have D15 := Lib.hid (And.intro J2.out.1 hno)
              clear hno hd0 hk0 hcf v0 v1 v2 v3 v4 v5 v6
              have bgN := (D15.out.1).bg
              have beN := (D15.out.1).be
              have q0 := bgN.c 0
              have p0 := bgN.f 0
              have q1 := bgN.c 1
              have p1 := bgN.f 1
              have q2 := bgN.c 2
              have p2 := bgN.f 2
              have q3 := bgN.c 3
              have p3 := bgN.f 3
              have q4 := bgN.c 4
              have p4 := bgN.f 4
              have q5 := bgN.c 5
              have p5 := bgN.f 5
              have q6 := bgN.c 6
              have p6 := bgN.f 6
              have HN := Lib.hid (And.intro beN (D15.out.2))
              clear bgN beN
              unfold z7 at *
              go_wp2_with fail
              refine bodyPost_ret (by simp [results, Tryz.results72, go_sem, q0, q1, q2, q3, q4, q5, q6]; rfl) rfl ?_
              rw [HN.out.2, DecPost_none]
              refine ⟨rfl, ?_⟩
              iterate 7 refine Below.setCell ?_ (by exact Nat.le_refl _) _
              exact HN.out.1
          · rw [errE_ne hd0]
            have hno : stD l = none := by rw [HD2.out, finS_k hd0]
            have D15 := Lib.hid (And.intro J2.out.1 hno)
            clear hno hd0 v0 v1 v2 v3 v4 v5 v6
            have bgN := (D15.out.1).bg
            have beN := (D15.out.1).be
            have q0 := bgN.c 0
            have p0 := bgN.f 0
            have q1 := bgN.c 1
            have p1 := bgN.f 1
            have q2 := bgN.c 2
            have p2 := bgN.f 2
            have q3 := bgN.c 3
            have p3 := bgN.f 3
            have q4 := bgN.c 4
            have p4 := bgN.f 4
            have q5 := bgN.c 5
            have p5 := bgN.f 5
            have q6 := bgN.c 6
            have p6 := bgN.f 6
            have HN := Lib.hid (And.intro beN (D15.out.2))
            clear bgN beN
            unfold z7 at *
            go_wp2_with fail
            refine bodyPost_ret (by simp [results, Tryz.results72, go_sem, q0, q1, q2, q3, q4, q5, q6]; rfl) rfl ?_
            rw [HN.out.2, DecPost_none]
            refine ⟨rfl, ?_⟩
            iterate 7 refine Below.setCell ?_ (by exact Nat.le_refl _) _
            exact HN.out.1
end Go.Proofs.YtlecglmiigdjlaaGreatDoor
