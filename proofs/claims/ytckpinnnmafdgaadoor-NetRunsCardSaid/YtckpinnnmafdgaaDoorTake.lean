/- Walk of net's Take. -/
import Derived.Test.YtckpinnnmafdgaaDoorTurnY
import Derived.Test.YtckpinnnmafdgaaDoorDelI
import Derived.Test.YtckpinnnmafdgaaDoorNIPut
namespace Go.Proofs.YtckpinnnmafdgaaDoor
open Go.RowKit
set_option linter.unusedVariables false
set_option linter.unusedSimpArgs false
set_option maxRecDepth 100000
theorem grown_far (W : World) (p : Addr) (v : Value) : W.grownBy (W.setCell p v) (some p.block) :=
  ⟨rfl, rfl, rfl, by simp [World.setCell], fun k _ hk => Below.heap_setCell _ _ _ k (fun e => hk (by rw [e]))⟩
theorem NS.off {W W' : World} {g gm R : Nat} {lim last : Int} {cnt : Nat} {f : Int → Int → Int} {A : Option Addr} {nl cl : Nat} {xs : List Value} (h : NS W g gm lim last cnt f A nl cl xs) (hg : W.grownBy W' (some R)) (h1 : R ≠ g) (h2 : R ≠ gm) (h3 : A.map (·.block) ≠ some R) : NS W' g gm lim last cnt f A nl cl xs := by
  refine ⟨h.bx.grown hg (fun e => h1 (Option.some.inj e)), h.own.kept hg ?_, h.mp.grown hg (fun e => h2 (Option.some.inj e).symm), h.gg⟩
  rcases A with _ | a
  · exact .inl rfl
  · exact .inr h3
theorem NI.of {W W' : World} {g gm : Nat} {lim last lim' last' : Int} {cnt cnt' : Nat} {f f' : Int → Int → Int} {A : Option Addr} {nl cl nl' cl' : Nat} {l l' : List Ic} (h : NI W g gm lim last cnt f A nl cl l) (hns : NS W' g gm lim' last' cnt' f' A nl' cl' (flat icell l')) (hs : l'.Sublist l) (hk : ∀ k, k < W.heap.size → k ≠ g → some k ≠ A.map (·.block) → W'.heap[k]? = W.heap[k]?) : NI W' g gm lim' last' cnt' f' A nl' cl' l' := by
  refine ⟨hns, fun x hx => ?_, fun x hx => h.sp x (hs.subset hx), h.ds.sublist hs⟩
  have hx' := hs.subset hx
  have hd := h.dt x hx'
  refine ⟨own_same hd.1 fun k hk' => ?_, hd.2⟩
  have := own_lt hd.1 k hk'
  exact hk k this.2 (by omega) (fun e => h.sp x hx' k hk' e.symm)
theorem find_at {W w' : World} {z : Int} {l : List Ic} {e : Ending} (h : FindPost W z l e w') {j : Nat} {y : Ic} (hy : l[j]? = some y) (hz : byId z y = true) (hne : ∀ x ∈ l.take j, byId z x = false) : e = .returned (.tuple #[.int .i64 j, .nilIface]) ∧ Below W.heap.size W w' := by
  refine ⟨?_, h.2⟩
  rcases h.1 with ⟨i, x, rfl, h1, h2, h3⟩ | ⟨_, h3⟩
  · have : i = j := by
      rcases Nat.lt_trichotomy i j with hlt | he | hlt
      · have hm : x ∈ l.take j := List.mem_iff_getElem?.2 ⟨i, by rw [List.getElem?_take, if_pos hlt, h1]⟩
        rw [hne x hm] at h2
        cases h2
      · exact he
      · have hm : y ∈ l.take i := List.mem_iff_getElem?.2 ⟨j, by rw [List.getElem?_take, if_pos hlt, hy]⟩
        rw [h3 y hm] at hz
        cases hz
    rw [this]
  · rw [h3 y (List.mem_of_getElem? hy)] at hz
    cases hz
theorem find_no {W w' : World} {z : Int} {l : List Ic} {e : Ending} (h : FindPost W z l e w') (hno : ∀ x ∈ l, byId z x = false) : e = .returned (.tuple #[.int .i64 0, errK 8]) ∧ Below W.heap.size W w' := by
  refine ⟨?_, h.2⟩
  rcases h.1 with ⟨i, x, rfl, h1, h2, h3⟩ | ⟨h3, _⟩
  · rw [hno x (List.mem_of_getElem? h1)] at h2
    cases h2
  · exact h3
def TakeNone (W : World) (e : Ending) (w' : World) : Prop := e = .returned (.tuple #[.agg #[.int .i64 0, .int .i64 0, .int .i64 0, .slice none 0 0], errK 8]) ∧ Below W.heap.size W w'
theorem take_none (g gm : Nat) (lim last : Int) (cnt : Nat) (f : Int → Int → Int) (A : Option Addr) (nl cl : Nat) (l : List Ic) (z : Int) (w : World) (h : NS w g gm lim last cnt f A nl cl (flat icell l)) (hn : nl ≤ 1000000) (hno : ∀ x ∈ l, byId z x = false) :
    Calls Tryd.prog 6 #[.pointer (some ⟨g, 0, none⟩), .int .i64 z] w (TakeNone w) := by
  have hf := fun ob => find_any g gm lim last cnt f A nl cl l z (w.alloc ob) (h.alloc ob) hn
  have Hf := Lib.hid hf
  have Hno := Lib.hid hno
  clear hf h hno
  go_enter Tryd.func6, Tryd.ntmps6
  go_wp2_with fail
  refine (Hf.out _).mono ?_
  rintro e w2 hp
  obtain ⟨rfl, hb⟩ := find_no hp Hno.out
  have XR := (Bx.new w #[.int .i64 0, .int .i64 0, .int .i64 0, .slice none 0 0] 32 rfl).below hb
  obtain ⟨r0, r1, r2, r3, f0, f1, f2, f3⟩ := XR.c4
  unfold errK
  go_wp2_with fail
  refine bodyPost_ret (by simp [results, Tryd.results6, go_sem, r0, r1, r2, r3]; rfl) rfl ?_
  refine ⟨rfl, ?_⟩
  have hb0 := ((Below.refl w.heap.size w).alloc (Nat.le_refl _) (.cells #[.int .i64 0, .int .i64 0, .int .i64 0, .slice none 0 0] 32)).trans (hb.mono (by simp))
  exact (((hb0.setCell (Nat.le_refl _) _).setCell (Nat.le_refl _) _).setCell (Nat.le_refl _) _).setCell (Nat.le_refl _) _
def TakeYes (W : World) (g gm : Nat) (lim last : Int) (cnt : Nat) (f : Int → Int → Int) (A : Option Addr) (nl cl : Nat) (l : List Ic) (j : Nat) (y : Ic) (e : Ending) (w' : World) : Prop :=
  e = .returned (.tuple #[icA y, .nilIface]) ∧ NI w' g gm lim last cnt f A (nl - 1) cl (l.take j ++ l.drop (j + 1)) ∧ Below gm W w' ∧ ∀ k, k < W.heap.size → k ≠ g → some k ≠ A.map (·.block) → w'.heap[k]? = W.heap[k]?
theorem cut_sub (l : List Ic) (j : Nat) : (l.take j ++ l.drop (j + 1)).Sublist l := by
  conv => rhs; rw [← List.take_append_drop j l]
  refine List.Sublist.append (List.Sublist.refl _) ?_
  rw [show l.drop (j + 1) = (l.drop j).drop 1 by rw [List.drop_drop]]
  exact List.drop_sublist _ _
set_option maxHeartbeats 1600000 in
theorem take_yes (g gm : Nat) (lim last : Int) (cnt : Nat) (f : Int → Int → Int) (A : Option Addr) (nl cl : Nat) (l : List Ic) (z : Int) (w : World) (h : NI w g gm lim last cnt f A nl cl l) (hn : nl ≤ 1000000) (j : Nat) (y : Ic) (hy : l[j]? = some y) (hz : byId z y = true) (hne : ∀ x ∈ l.take j, byId z x = false) :
    Calls Tryd.prog 6 #[.pointer (some ⟨g, 0, none⟩), .int .i64 z] w (TakeYes w g gm lim last cnt f A nl cl l j y) := by
  have hf := fun ob => find_any g gm lim last cnt f A nl cl l z (w.alloc ob) (h.ns.alloc ob) hn
  have hgl := h.ns.bx.lt
  have hgg := h.ns.gg
  have hll := h.len
  have hjl := (List.getElem?_eq_some_iff.1 hy).1
  have Hf := Lib.hid hf
  have Hne := Lib.hid hne
  have Hy := Lib.hid (And.intro hy hz)
  have H := Lib.hid h
  clear hf h hne hy hz
  go_enter Tryd.func6, Tryd.ntmps6
  go_wp2_with fail
  refine (Hf.out _).mono ?_
  rintro e w2 hp
  obtain ⟨rfl, hb⟩ := find_at hp Hy.out.1 Hy.out.2 Hne.out
  have XR := (Bx.new w #[.int .i64 0, .int .i64 0, .int .i64 0, .slice none 0 0] 32 rfl).below hb
  have hz2 := hb.size
  simp only [World.size_alloc] at hz2
  have hns := (H.out.ns.alloc _).below hb
  have k2 : w2.cell? ⟨g, 2, none⟩ = some (.slice A nl cl) := hns.bx.c 2
  have k2a : ∀ ob, (w2.alloc ob).cell? ⟨g, 2, none⟩ = some (.slice A nl cl) := fun ob => (hns.bx.alloc ob).c 2
  have hown : ∀ ob, (w2.alloc ob).ownsRow (g + 1) 32 4 (.slice A nl cl) nl (flat icell l) := fun ob => hns.own.alloc ob
  have hrow := own_lt hns.own
  have hil : j < nl := by omega
  obtain ⟨b, o, x, rfl, _, hbl, hx, hc0, hc1, hc2, hc3⟩ := ic_cells (Rd.of_own hns.own) hil
  rw [Hy.out.1] at hx
  obtain rfl : y = x := by simpa using hx
  have hilI : (j : Int) < nl := by omega
  have hx1 : IntKind.i64.wrap ((j : Int) + 1) = (j : Int) + 1 := by rw [IntKind.wrap_i64]; omega
  have hdel := fun ob => delI_any (g + 1) (some ⟨b, o, none⟩) nl cl (flat icell l) j (w2.alloc ob) (hown ob) hil (icell_one l) hn
  have Hdel := Lib.hid hdel
  have Hns := Lib.hid hns
  have Hb := Lib.hid hb
  have hbr := hrow b rfl
  have hbne : b ≠ w2.heap.size := by omega
  have Hrow := Lib.hid hrow
  clear hp hx hns hown hdel hb hrow
  go_wp2_with fail
  refine (Hdel.out _).mono ?_
  rintro e w4 ⟨rfl, hown4, hg4⟩
  have hx4 := (Hns.out.bx.alloc (.cells #[.int .i64 y.id, .int .i64 y.fr, .int .i64 y.to, .slice y.A y.n y.c] 32)).grown hg4 (fun e => by injection e with e; have e' : b = g := e; omega)
  have m1 := hx4.c 2
  have m2 := hx4.f 2
  have X8 := (Bx.new w2 #[.int .i64 y.id, .int .i64 y.fr, .int .i64 y.to, .slice y.A y.n y.c] 32 rfl).grown hg4 (fun e => by injection e with e; exact hbne e)
  obtain ⟨p0, p1, p2, p3, -⟩ := X8.c4
  have hbw : b < w.heap.size := (own_lt H.out.ns.own b rfl).2
  have XR4 := (XR.alloc (.cells #[.int .i64 y.id, .int .i64 y.fr, .int .i64 y.to, .slice y.A y.n y.c] 32)).grown hg4 (fun e => by injection e with e; have e' : b = w.heap.size := e; omega)
  obtain ⟨r0, r1, r2, r3, f0, f1, f2, f3⟩ := XR4.c4
  have hRg : ¬ w.heap.size = g := by omega
  have h8g : ¬ w2.heap.size = g := by omega
  have h8R : ¬ w2.heap.size = w.heap.size := by omega
  have hR8 : ¬ w.heap.size = w2.heap.size := by omega
  have Hown4 := Lib.hid hown4
  have Hg4 := Lib.hid hg4
  clear hown4 hg4 Hdel X8 XR4 hx4
  go_wp2_with fail
  refine bodyPost_ret (by simp [results, Tryd.results6, go_sem, r0, r1, r2, r3, hRg]; rfl) rfl ?_
  have hg4 := Hg4.out
  have hb0 := ((Below.refl w.heap.size w).alloc (Nat.le_refl _) (.cells #[.int .i64 0, .int .i64 0, .int .i64 0, .slice none 0 0] 32)).trans (Hb.out.mono (by simp))
  have hb1 := hb0.alloc (by omega) (.cells #[.int .i64 y.id, .int .i64 y.fr, .int .i64 y.to, .slice y.A y.n y.c] 32)
  have hgm : gm ≤ w.heap.size := by omega
  have hAR : (some (⟨b, o, none⟩ : Addr)).map (·.block) ≠ some w.heap.size := fun e => by injection e with e; have e' : b = w.heap.size := e; omega
  have hRm : w.heap.size ≠ gm := by omega
  have hns5 := (Hns.out.alloc (.cells #[.int .i64 y.id, .int .i64 y.fr, .int .i64 y.to, .slice y.A y.n y.c] 32)).items hg4 Hown4.out
  have hfl : (flat icell l).take (j * 4) ++ (flat icell l).drop ((j + 1) * 4) = flat icell (l.take j ++ l.drop (j + 1)) := by rw [flat_append, flat_take icell_len, flat_drop icell_len]
  rw [hfl] at hns5
  have hns6 := (((hns5.off (grown_far _ ⟨w.heap.size, 0, none⟩ (.int .i64 y.id)) hRg hRm hAR).off (grown_far _ ⟨w.heap.size, 1, none⟩ (.int .i64 y.fr)) hRg hRm hAR).off (grown_far _ ⟨w.heap.size, 2, none⟩ (.int .i64 y.to)) hRg hRm hAR).off (grown_far _ ⟨w.heap.size, 3, none⟩ (.slice y.A y.n y.c)) hRg hRm hAR
  have hk : ∀ k, k < w.heap.size → k ≠ g → some k ≠ (some (⟨b, o, none⟩ : Addr)).map (·.block) → (((((w4.setCell ⟨g, 2, none⟩ (.slice (some ⟨b, o, none⟩) (nl - 1) cl)).setCell ⟨w.heap.size, 0, none⟩ (.int .i64 y.id)).setCell ⟨w.heap.size, 1, none⟩ (.int .i64 y.fr)).setCell ⟨w.heap.size, 2, none⟩ (.int .i64 y.to)).setCell ⟨w.heap.size, 3, none⟩ (.slice y.A y.n y.c)).heap[k]? = w.heap[k]? := by
    intro k hk hkg hkA
    have hkR : k ≠ w.heap.size := by omega
    rw [Below.heap_setCell _ _ _ k hkR, Below.heap_setCell _ _ _ k hkR, Below.heap_setCell _ _ _ k hkR, Below.heap_setCell _ _ _ k hkR, Below.heap_setCell _ _ _ k hkg, hg4.block k (by simp; omega) hkA]
    exact hb1.block k hk
  refine ⟨rfl, NI.of H.out hns6 (cut_sub l j) hk, ?_, hk⟩
  exact ((((((hb1.mono hgm).grown hg4 (by simp; omega) (fun k hk => by injection hk with hk; have e' : b = k := hk; omega)).setCell (by show gm ≤ g; omega) _).setCell hgm _).setCell hgm _).setCell hgm _).setCell hgm _
end Go.Proofs.YtckpinnnmafdgaaDoor
