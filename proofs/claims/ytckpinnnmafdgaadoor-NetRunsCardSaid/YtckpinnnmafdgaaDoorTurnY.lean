/- Walk of net's Turn: a bit is turned. -/
import Derived.Test.YtckpinnnmafdgaaDoorTurnN
import Derived.Deep.DeepCutAuto
import Derived.StillTailTactics
namespace Go.Proofs.YtckpinnnmafdgaaDoor
open Go.RowKit
set_option linter.unusedVariables false
set_option linter.unusedSimpArgs false
set_option maxRecDepth 100000
theorem bits_xor (c : UInt8) (kk : Nat) (h : kk < 8) : bits .xor .u8 (c.toNat : Int) (2 ^ kk % 256) = ((c ^^^ ((1 : UInt8) <<< UInt8.ofNat kk)).toNat : Int) := by
  have key : ∀ k : Fin 8, ∀ d : Fin 256, bits .xor .u8 ((d.val : Nat) : Int) (2 ^ k.val % 256) = (((UInt8.ofNat d.val) ^^^ ((1 : UInt8) <<< UInt8.ofNat k.val)).toNat : Int) := by decide +kernel
  have := key ⟨kk, h⟩ ⟨c.toNat, c.toNat_lt⟩
  simpa using this
theorem shl_run (kk : Nat) (h : kk < 8) (W : World) : Sem.run Tryd.prog (Op.shift BinOp.shl IntKind.u8 1 IntKind.i64 (kk : Int)) W = .ok (.int .u8 (((1 : UInt8) <<< UInt8.ofNat kk).toNat : Int)) W := by
  have h8 : kk = 0 ∨ kk = 1 ∨ kk = 2 ∨ kk = 3 ∨ kk = 4 ∨ kk = 5 ∨ kk = 6 ∨ kk = 7 := by omega
  rcases h8 with rfl | rfl | rfl | rfl | rfl | rfl | rfl | rfl <;> first | rfl | (show _ = _; kernel_rfl) | (go_simp; rfl)
def TurnYes (W : World) (g gm : Nat) (lim last : Int) (cnt : Nat) (f : Int → Int → Int) (A : Option Addr) (nl cl : Nat) (l' : List Ic) (yA : Option Addr) (e : Ending) (w' : World) : Prop :=
  e = .returned .nilIface ∧ NI w' g gm lim last cnt f A nl cl l' ∧ Below gm W w' ∧ ∀ k, k < W.heap.size → yA.map (·.block) ≠ some k → w'.heap[k]? = W.heap[k]?
set_option maxHeartbeats 1600000 in
theorem turn_yes (g gm : Nat) (lim last : Int) (cnt : Nat) (f : Int → Int → Int) (A : Option Addr) (nl cl : Nat) (l : List Ic) (z : Int) (m jj kk : Nat) (w : World) (h : NI w g gm lim last cnt f A nl cl l) (hn : nl ≤ 1000000) (j : Nat) (y : Ic) (hy : l[j]? = some y) (hz : byId z y = true) (hne : ∀ x ∈ l.take j, byId z x = false) (hbit : m < 8 * y.n) (hjj : jj = m / 8) (hkk : kk = m % 8) (c : UInt8) (hc : y.d[jj]? = some c) :
    Calls Tryd.prog 10 #[.pointer (some ⟨g, 0, none⟩), .int .i64 z, .int .i64 (m : Nat)] w (TurnYes w g gm lim last cnt f A nl cl (l.set j (setD y (y.d.set jj (c ^^^ ((1 : UInt8) <<< UInt8.ofNat kk))))) y.A) := by
  have hf := find_any g gm lim last cnt f A nl cl l z w h.ns hn
  have Hf := Lib.hid hf
  have Hne := Lib.hid hne
  have Hy := Lib.hid (And.intro hy hz)
  have H := Lib.hid h
  clear hf h hne hy hz
  go_enter Tryd.func10, Tryd.ntmps10
  go_wp2_with fail
  refine Hf.out.mono ?_
  rintro e w2 ⟨h1, hb⟩
  have hij : ∃ i : Nat, i = j ∧ e = .returned (.tuple #[.int .i64 i, .nilIface]) := by
    rcases h1 with ⟨i, x, rfl, h1, h2, h3⟩ | ⟨_, h3⟩
    · refine ⟨i, ?_, rfl⟩
      rcases Nat.lt_trichotomy i j with hlt | he | hlt
      · have hm : x ∈ l.take j := List.mem_iff_getElem?.2 ⟨i, by rw [List.getElem?_take, if_pos hlt, h1]⟩
        rw [Hne.out x hm] at h2
        cases h2
      · exact he
      · have hm : y ∈ l.take i := List.mem_iff_getElem?.2 ⟨j, by rw [List.getElem?_take, if_pos hlt, Hy.out.1]⟩
        have := Hy.out.2
        rw [h3 y hm] at this
        cases this
    · have := Hy.out.2
      rw [h3 y (List.mem_of_getElem? Hy.out.1)] at this
      cases this
  obtain ⟨i, rfl, rfl⟩ := hij
  have hns := H.out.ns.below hb
  have k2 : w2.cell? ⟨g, 2, none⟩ = some (.slice A nl cl) := hns.bx.c 2
  have hl := (Rd.of_own hns.own).flen icell_len (by omega)
  have hil : i < nl := by rw [← hl]; exact (List.getElem?_eq_some_iff.1 Hy.out.1).1
  obtain ⟨b, o, x, rfl, _, _, hx, _, _, _, hc3⟩ := ic_cells (Rd.of_own hns.own) hil
  rw [Hy.out.1] at hx
  obtain rfl : y = x := by simpa using hx
  have hdt := H.out.dt y (List.mem_of_getElem? Hy.out.1)
  have hni := hdt.2
  have hown := own_below hdt.1 hb
  obtain ⟨gd, hAd⟩ : ∃ gd, y.A = some ⟨gd, 0, none⟩ := by
    rcases hown.2 with ⟨h', h''⟩ | ⟨g', _, _, h', _⟩
    · omega
    · injection h' with h' _ _
      exact ⟨g', h'⟩
  rw [hAd] at hown hc3
  have hj : jj < y.n := by omega
  have hdl : y.d.length = y.n := by have := hown.1; simpa [bs_length] using this
  have kd : w2.cell? ⟨gd, jj, none⟩ = some (.int .u8 (c.toNat : Int)) := by
    rw [hown.cellAt jj (by omega)]
    simp [bs, hc]
  have kfz : w2.frozen? ⟨gd, jj, none⟩ = false := hown.frozenAt _
  have hilI : (i : Int) < nl := by omega
  have hm0 : ¬ (m : Int) < 0 := by omega
  have hmI : ¬ 8 * (y.n : Int) ≤ m := by omega
  have e1 : ((m : Int) / 8) = (jj : Int) := by omega
  have e2 : ((m : Int) % 8) = (kk : Int) := by omega
  have hjI : (jj : Int) < y.n := by omega
  have hk8 : (kk : Int) < 8 := by omega
  have hwj : IntKind.i64.wrap ((jj : Nat) : Int) = (jj : Int) := by first | exact IntWalk.wrap64_in _ ⟨by omega, by omega⟩ | (simp [IntKind.wrap, IntKind.signed, IntKind.bits]; omega)
  have hwk : IntKind.i64.wrap ((kk : Nat) : Int) = (kk : Int) := by first | exact IntWalk.wrap64_in _ ⟨by omega, by omega⟩ | (simp [IntKind.wrap, IntKind.signed, IntKind.bits]; omega)
  have e3 : (m : Int).tmod 8 = (kk : Int) := by rw [Int.tmod_eq_emod_of_nonneg (by omega)]; exact e2
  have hshl := fun W => shl_run kk (by omega) W
  generalize (1 : UInt8) <<< UInt8.ofNat kk = q at hshl
  have hj0 : (0 : Int) ≤ jj := by omega
  have hk0 : (0 : Int) ≤ kk := by omega
  have Hjk := Lib.hid (And.intro hjj hkk)
  have Hown := Lib.hid hown
  clear hjj hkk hbit
  clear h1 hns hl hx hown hdt
  have hbx := bits_xor c kk (by omega)
  have Hbx := Lib.hid hbx
  have hgm := H.out.ns.gg
  have hz := hb.size
  have hlt := H.out.ns.mp.lt
  have hgd := own_lt Hown.out gd rfl
  have hni2 := (H.out.below hb).turned (i := jj) Hy.out.1 hAd (c ^^^ ((1 : UInt8) <<< UInt8.ofNat kk))
  have Hni2 := Lib.hid hni2
  clear hbx hni2
  go_upto_region 6 with (fail)
  go_still_tail 17, (by kernel_rfl)
  change wpList _ _ _ _ _ w2.drew
  go_wp2_with fail
  rw [Hbx.out]
  go_ret
  exact ⟨rfl, ⟨Hni2.out.ns.drew, Hni2.out.dt, Hni2.out.sp, Hni2.out.ds⟩, ((hb.mono (by omega)).setCell (by show gm ≤ gd; omega) _).drew, fun k hk hne => (Below.heap_setCell _ _ _ k (fun e => hne (by rw [hAd, e]; rfl))).trans (hb.block k hk)⟩
end Go.Proofs.YtckpinnnmafdgaaDoor
