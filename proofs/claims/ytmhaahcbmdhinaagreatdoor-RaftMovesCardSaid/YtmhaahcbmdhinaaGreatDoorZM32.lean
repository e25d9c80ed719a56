/- Plain: the law's group: its members, and what is on its way
   Plain: a member tells but some messages at once
   The law's group is as a plain one, in blocks of its own; and: a member is called, and what it tells is on its way.
   What is kept fits where its copy does (cut out of lib's Kp2 by mk13.py).
   The law's group: a member's calls, as the group is behind them.
   Plain law: one member alone -/
import Derived.Test.YtmhaahcbmdhinaaGreatDoorZM31
import Derived.Test.YtmhaahcbmdhinaaGreatDoorZM9
import Derived.Test.YtmhaahcbmdhinaaGreatDoorZM23
import Derived.Test.YtmhaahcbmdhinaaGreatDoorZM30
import Derived.Test.YtmhaahcbmdhinaaGreatDoorZM19
namespace Go.Proofs.YtmhaahcbmdhinaaGreatDoor
set_option linter.unusedVariables false
set_option linter.unusedSimpArgs false
structure Gs where
 C : Nat → Cr
 net : List Ms
 done : Nat → List En
 leads : List Int
def Gs.tells (g : Gs) (out : List Ms) : Gs := { g with net := g.net ++ out.take (300 - g.net.length) }
def Gs.place (g : Gs) (at_ : Int) : Nat := ((IntKind.u64.wrap at_).tmod (g.net.length : Int)).toNat
def Gs.steps (g : Gs) (who : Nat) (x : Ms) (draw j : Int) : Gs := { g with C := upd g.C who ((g.C who).step x draw j).1 }.tells ((g.C who).step x draw j).2
def Gs.hears (g : Gs) (n : Nat) (at_ : Int) (stays : Bool) (draw j : Int) : Gs :=
 match g.net[g.place at_]? with
 | none => g
 | some x =>
  let g1 : Gs := if stays then g else { g with net := g.net.take (g.place at_) ++ g.net.drop (g.place at_ + 1) }
  if 1 ≤ x.dst ∧ x.dst ≤ 7 ∧ (x.dst - 1).toNat < n then g1.steps (x.dst - 1).toNat x draw j else g1
def Gs.ticks (g : Gs) (who : Nat) (draw : Int) : Gs := { g with C := upd g.C who ((g.C who).tick draw).1 }.tells ((g.C who).tick draw).2
def Gs.asks (g : Gs) (who : Nat) (kd : Int) (d : List UInt8) : Gs := { g with C := upd g.C who ((g.C who).propose kd d).1 }.tells ((g.C who).propose kd d).2.2.1
def Gs.letsGo (g : Gs) (who : Nat) (ix : Int) (sn : List UInt8) : Gs := { g with C := upd g.C who ((g.C who).compact ix sn).1 }
def Mvs (n : Nat) (g g' : Gs) : Prop := ∀ i, i < n → Mv (g.C i) (g'.C i)
theorem Mvs.refl (n : Nat) (g : Gs) : Mvs n g g := fun _ _ => .refl _
theorem Mvs.trans {n : Nat} {g g' g2 : Gs} (h : Mvs n g g') (h2 : Mvs n g' g2) : Mvs n g g2 := fun i hi => (h i hi).trans (h2 i hi)
theorem Mvs.upd {n who : Nat} {g g' : Gs} {D : Cr} (hc : g'.C = Go.Proofs.YtmhaahcbmdhinaaGreatDoor.upd g.C who D) (hm : Mv (g.C who) D) : Mvs n g g' := fun i _ => by
 rw [hc]
 by_cases e : i = who
 ·subst e
  rw [upd_self]
  exact hm
 ·rw [upd_ne e]
  exact .refl _
theorem hears_mv (n : Nat) (g : Gs) (at_ : Int) (stays : Bool) (draw j : Int) : Mvs n g (g.hears n at_ stays draw j) := by
 unfold Gs.hears
 split
 ·exact .refl _ _
 ·rename_i x hx
  dsimp only
  have hC : (if stays = true then g else { g with net := g.net.take (g.place at_) ++ g.net.drop (g.place at_ + 1) } : Gs).C = g.C := by split <;> rfl
  split
  ·refine Mvs.upd (who := (x.dst - 1).toNat) (D := ((g.C (x.dst - 1).toNat).step x draw j).1) ?_ (step_mv _ _ _ _)
   show Go.Proofs.YtmhaahcbmdhinaaGreatDoor.upd (Gs.C _) _ _ = _
   rw [hC]
  ·exact fun i _ => by rw [hC]; exact .refl _
theorem ticks_mv (n : Nat) (g : Gs) (who : Nat) (draw : Int) : Mvs n g (g.ticks who draw) := Mvs.upd rfl (tick_mv _ _)
theorem asks_mv (n : Nat) (g : Gs) (who : Nat) (kd : Int) (d : List UInt8) : Mvs n g (g.asks who kd d) := Mvs.upd rfl (propose_mv _ _ _)
theorem letsGo_mv (n : Nat) (g : Gs) (who : Nat) (ix : Int) (sn : List UInt8) : Mvs n g (g.letsGo who ix sn) := Mvs.upd rfl (compact_mv _ _ _)
section
variable {C : Cr}
theorem others_seven (h : cmay C.s.cf = true) : C.others.length ≤ 7 := by
 refine Nat.le_trans (List.length_filter_le _ _) ?_
 have hm : cmay C.members = true := by
  unfold Cr.members Cr.upto
  split
  ·exact h
  ·rename_i e he
   cases hd : confD e.d with
   | none => exact h
   | some cf => exact confD_may' hd
 exact (cmay_iff.1 hm).2.2.2
theorem sendL_many : ∀ (l : List Int) (C : Cr), (C.sendL l).2.length = l.length
 | [], _ => rfl
 | w :: l, C => by
  show ((C.know w).sendL l).2.length + 1 = l.length + 1
  rw [sendL_many l]
theorem sendAll_many (h : cmay C.s.cf = true) : C.sendAll.2.length ≤ 7 := by
 unfold Cr.sendAll
 rw [sendL_many]
 exact others_seven h
theorem advance_many (h : cmay C.s.cf = true) : C.advance.2.length ≤ 7 := by
 unfold Cr.advance
 dsimp only
 split
 ·exact Nat.zero_le _
 ·split
  ·exact Nat.zero_le _
  ·exact sendAll_many h
theorem tell_many (h : cmay C.s.cf = true) : C.tell.2.length ≤ 14 := by
 unfold Cr.tell
 dsimp only
 rw [List.length_append]
 have h1 := sendAll_many h
 have h2 := advance_many (C := C.sendAll.1) (by rw [(sendAll_keep C).2]; exact h)
 omega
theorem lead_many (h : cmay C.s.cf = true) : C.lead.2.length ≤ 14 := by
 unfold Cr.lead
 dsimp only
 rw [knowL_eta]
 split
 ·exact tell_many h
 ·exact Nat.zero_le _
theorem stand_many (h : cmay C.s.cf = true) (draw : Int) : (C.stand draw).2.length ≤ 14 := by
 unfold Cr.stand
 dsimp only
 split
 ·exact lead_many h
 ·rw [List.length_map]
  refine Nat.le_trans (others_seven ?_) (by omega)
  exact h
theorem tick_many (h : cmay C.s.cf = true) (draw : Int) : (C.tick draw).2.length ≤ 14 := by
 unfold Cr.tick
 dsimp only
 split
 ·split
  ·exact Nat.zero_le _
  ·exact Nat.le_trans (sendAll_many h) (by omega)
 ·split
  ·exact Nat.zero_le _
  ·split
   ·exact Nat.zero_le _
   ·exact stand_many h _
theorem propose_many (h : cmay C.s.cf = true) (kd : Int) (d : List UInt8) : (C.propose kd d).2.2.1.length ≤ 14 := by
 unfold Cr.propose
 dsimp only
 split
 ·exact Nat.zero_le _
 ·split
  ·exact Nat.zero_le _
  ·split
   ·exact Nat.zero_le _
   ·exact tell_many h
theorem has_many {D : Cr} (h : cmay D.s.cf = true) (w ix : Int) : (D.has w ix).2.length ≤ 8 := by
 have h2 : (D.hasE w ix).2.length ≤ 7 := advance_many (C := D.put w ((D.of w).has ix D.last)) h
 rw [chas_eq]
 split
 ·rw [List.length_append]
  show _ + 1 ≤ 8
  omega
 ·omega
theorem step_many (h : cmay C.s.cf = true) (x : Ms) (draw j : Int) : (C.step x draw j).2.length ≤ 14 := by
 have hn : cmay (C.newer x).s.cf = true := by unfold Cr.newer; split <;> exact h
 unfold Cr.step
 split
 ·exact Nat.zero_le _
 ·dsimp only
  split
  ·show 1 ≤ 14; omega
  ·split
   ·unfold Cr.voted
    dsimp only
    split
    ·exact Nat.zero_le _
    ·split
     ·exact lead_many hn
     ·exact Nat.zero_le _
   ·split
    ·unfold Cr.add
     split
     ·show 1 ≤ 14; omega
     ·split
      ·exact Nat.zero_le _
      ·dsimp only
       split
       ·exact Nat.zero_le _
       ·split <;> (show 1 ≤ 14; omega)
    ·split
     ·obtain ⟨D, hD⟩ : ∃ D, C.newer x = D := ⟨_, rfl⟩
      rw [hD]
      by_cases h1 : x.term < D.s.tm
      ·rw [takeC_low h1]; show 1 ≤ 14; omega
      ·by_cases h2 : x.ix ≤ D.commit
       ·rw [takeC_old h1 h2]; show 1 ≤ 14; omega
       ·by_cases hd : (putR D.key D.hv x.ix x.off x.data x.ok).2.2.2.2 = false
        ·rw [takeC_more h1 h2 rfl hd]; show 1 ≤ 14; omega
        ·by_cases hlt : x.lt < 1
         ·rw [takeC_zero h1 h2 rfl hd hlt]; exact Nat.zero_le _
         ·rw [takeC_in h1 h2 rfl hd hlt]; show 1 ≤ 14; omega
     ·split
      ·exact Nat.zero_le _
      ·unfold Cr.told
       dsimp only
       split
       ·exact Nat.le_trans (has_many (D := (C.newer x).put x.fr { (C.newer x).of x.fr with rd := max ((C.newer x).of x.fr).rd x.rd }) hn _ _) (by omega)
       ·split
        ·show 1 ≤ 14; omega
        ·split
         ·exact Nat.zero_le _
         ·show 1 ≤ 14; omega
end
theorem Cr.Ok.cf {C : Cr} {k : Nat} (h : C.Ok k) : cmay C.s.cf = true := (St.may_parts.1 h.may).2.1
end Go.Proofs.YtmhaahcbmdhinaaGreatDoor
namespace Go.Proofs.YtmhaahcbmdhinaaGreatDoor
open Go.RowKit
set_option linter.unusedVariables false
set_option linter.unusedSimpArgs false
def GrIs (fb : Nat) (W : World) (n gb : Nat) (span : Int) (p : Nat → Nat) (g : Gs) (F : Nat → Prop) : Prop :=
 ∃ U V m cells N nn cn NX X D, Gr fb W U n p V g.C m gb span cells N nn cn NX X D g.leads ∧ NX.map Mr.ms = g.net ∧ (∀ k, k < 7 → (D k).map en = g.done k) ∧ ∀ b, F b → ¬ U b ∧ b < W.heap.size
structure KeepF (F : Nat → Prop) (W W' : World) : Prop where
 os : W'.os = W.os
 tape : W'.tape = W.tape
 output : W'.output = W.output
 size : W.heap.size ≤ W'.heap.size
 block : ∀ b, F b → W'.heap[b]? = W.heap[b]?
section
variable {fb n gb : Nat} {W W' W2 : World} {span : Int} {p : Nat → Nat} {g : Gs} {F F' : Nat → Prop}
theorem KeepF.refl (F : Nat → Prop) (W : World) : KeepF F W W := ⟨rfl, rfl, rfl, Nat.le_refl _, fun _ _ => rfl⟩
theorem KeepF.trans (h : KeepF F W W') (h2 : KeepF F W' W2) : KeepF F W W2 := ⟨h2.os.trans h.os, h2.tape.trans h.tape, h2.output.trans h.output, Nat.le_trans h.size h2.size, fun b hb => (h2.block b hb).trans (h.block b hb)⟩
theorem KeepF.mono (h : KeepF F W W') (hf : ∀ b, F' b → F b) : KeepF F' W W' := ⟨h.os, h.tape, h.output, h.size, fun b hb => h.block b (hf b hb)⟩
theorem KeepF.of_kept {K : Nat → Prop} (h : Kept K W W') (hf : ∀ b, F b → b < W.heap.size ∧ ¬ K b) : KeepF F W W' := ⟨h.os, h.tape, h.output, h.size, fun b hb => h.block b (hf b hb).1 (hf b hb).2⟩
theorem KeepF.of_below (h : Below W.heap.size W W') (hf : ∀ b, F b → b < W.heap.size) : KeepF F W W' := ⟨h.os, h.tape, h.output, h.size, fun b hb => h.block b (hf b hb)⟩
theorem KeepF.below {B : Nat} (h : KeepF F W W') (hf : ∀ b, b < B → F b) : Below B W W' := ⟨h.os, h.tape, h.output, h.size, fun b hb => h.block b (hf b hb)⟩
theorem KeepF.bx {z : Nat} {cs : Array Value} (h : KeepF F W W') (hb : Bx W z cs) (hz : F z) : Bx W' z cs := hb.keep (h.block z hz)
theorem GrIs.below (h : GrIs fb W n gb span p g F) (hb : Below W.heap.size W W') : GrIs fb W' n gb span p g F := by
 obtain ⟨U, V, m, cells, N, nn, cn, NX, X, D, a, b, c, d⟩ := h
 exact ⟨U, V, m, cells, N, nn, cn, NX, X, D, a.below hb, b, c, fun z hz => ⟨(d z hz).1, Nat.lt_of_lt_of_le (d z hz).2 hb.size⟩⟩
theorem GrIs.less_f (h : GrIs fb W n gb span p g F) (hf : ∀ b, F' b → F b) : GrIs fb W n gb span p g F' := by
 obtain ⟨U, V, m, cells, N, nn, cn, NX, X, D, a, b, c, d⟩ := h
 exact ⟨U, V, m, cells, N, nn, cn, NX, X, D, a, b, c, fun z hz => d z (hf z hz)⟩
theorem GrIs.more_f (h : GrIs fb W n gb span p g F) (hn : 0 < n) (hb : Below W.heap.size W W') (hf : ∀ b, F' b → F b ∨ (W.heap.size ≤ b ∧ b < W'.heap.size)) : GrIs fb W' n gb span p g F' := by
 obtain ⟨U, V, m, cells, N, nn, cn, NX, X, D, a, b, c, d⟩ := h
 refine ⟨U, V, m, cells, N, nn, cn, NX, X, D, a.below hb, b, c, fun z hz => ?_⟩
 rcases hf z hz with h1 | ⟨h1, h2⟩
 ·exact ⟨(d z h1).1, Nat.lt_of_lt_of_le (d z h1).2 hb.size⟩
 ·exact ⟨fun hu => by have := (a.gx.cx 0 hn).ul z hu; omega, h2⟩
theorem GrIs.fin (h : GrIs fb W n gb span p g F) : ∀ b, F b → b < W.heap.size := by
 obtain ⟨U, V, m, cells, N, nn, cn, NX, X, D, a, b, c, d⟩ := h
 exact fun z hz => (d z hz).2
theorem GrIs.env (h : GrIs fb W n gb span p g F) : Env fb W := by
 obtain ⟨U, V, m, cells, N, nn, cn, NX, X, D, a, b, c, d⟩ := h
 exact a.en
def TellsP (fb : Nat) (W : World) (n gb : Nat) (span : Int) (p : Nat → Nat) (g : Gs) (F : Nat → Prop) (e : Ending) (w' : World) : Prop := e = .returned (.tuple #[]) ∧ GrIs fb w' n gb span p g F ∧ KeepF F W w'
theorem tells_after {U : Nat → Prop} {V : Nat → Nat → Prop} {m : Nat → Mb} {cells : Array Value} {N : Option Addr} {nn cn : Nat} {NX : List Mr} {X : Nat → Prop} {D : Nat → List Er}
  (T : Gr fb W U n p V g.C m gb span cells N nn cn NX X D g.leads) (hnet : NX.map Mr.ms = g.net) (hdone : ∀ k, k < 7 → (D k).map en = g.done k) (hF : ∀ b, F b → ¬ U b ∧ b < W.heap.size) {q : Nat} (hq : q < n) {r : Cr × List Ms} (hfew : Few r.2) (hmany : r.2.length ≤ 14)
  {A : Option Addr} {n' c' : Nat} {Y : List Mr} {V' U' : Nat → Prop} {m' : Mb} {w1 : World} (rm : Rm w1 W.heap.size A n' c' Y) (hms : Y.map Mr.ms = r.2) (hat : ∀ x ∈ Y, x.At w1 (fun b => ¬ U' b)) (cto : CTo fb W (p q) (V q) U r.1 w1 V' U' m') :
  Calls Tryz.prog 31 #[.pointer (some ⟨gb, 0, none⟩), .slice A n' c'] w1 (TellsP fb W n gb span p (({ g with C := upd g.C q r.1 } : Gs).tells r.2) F) := by
 have G3 := T.call hq cto
 have hY : ∀ y ∈ Y, y.At w1 (fun b => ¬ U' b) ∧ y.ms.es.length ≤ 16 := fun y hy => ⟨hat y hy, hfew y.ms (by rw [← hms]; exact List.mem_map_of_mem hy)⟩
 have hlenY : Y.length = n' := rm.len
 have hn' : n' ≤ 1000000 := by
  rw [← hms, List.length_map] at hmany
  omega
 have hrow : Rd w1 (fun b => b ≠ gb ∧ N.map (·.block) ≠ some b) 12 A n' (flat mcell Y) := (Rd.of_own rm.ow).mono fun b hb => ⟨fun e => by have := T.bx.lt; omega, fun e => by have := (own_lt T.ow b e).2; omega⟩
 refine (tells_any gb cells N nn cn NX A n' c' Y w1 G3.bx G3.net G3.ow G3.few (fun e => (G3.nu gb e).2.2.1 rfl) hrow hn').mono ?_
 rintro e w2 ⟨rfl, j2, N', cn', cells', htk, tat⟩
 have G4 := G3.told hY tat G3.en.le
 have e8 : NX.length = nn := (Rd.of_own T.ow).flen mcell_len (by omega)
 have hk := tat.2.2.2.2.1
 have hvu := (T.gx.cx q hq).vu
 refine ⟨rfl, ⟨_, _, _, _, _, _, _, _, X, D, G4, ?_, hdone, fun b hb => ⟨fun h9 => ?_, Nat.lt_of_lt_of_le (hF b hb).2 (Nat.le_trans cto.kept.size hk.size)⟩⟩, hk.os.trans cto.kept.os, hk.tape.trans cto.kept.tape, hk.output.trans cto.kept.output, Nat.le_trans cto.kept.size hk.size, fun b hb => ?_⟩
 ·show (NX ++ Y.take j2).map Mr.ms = g.net ++ r.2.take (300 - g.net.length)
  rw [htk, List.map_append, hnet, List.map_take, hms, ← hnet, List.length_map, e8]
 ·obtain ⟨h1, h2⟩ := hF b hb
  rcases h9 with h9 | h9
  ·exact (cto.un b h9).elim h1 fun h => by omega
  ·rcases tat.2.2.2.2.2 with h8 | ⟨b2, h8, h10⟩
   ·exact h1 (T.nu b (by rw [← h8]; exact h9)).1
   ·rw [h9] at h8; have h11 := Option.some.inj h8; have := cto.kept.size; omega
 ·obtain ⟨h1, h2⟩ := hF b hb
  rw [hk.block b (Nat.lt_of_lt_of_le h2 cto.kept.size) (fun h9 => h9.elim (fun e => h1 (e ▸ T.gu.1)) fun e => h1 (T.nu b e).1)]
  exact cto.kept.block b h2 fun h9 => h1 (hvu b h9)
end
theorem en_iff {x y : Er} : en x = en y ↔ x.a = y.a ∧ x.b = y.b ∧ x.c = y.c ∧ x.d = y.d := by
 unfold en
 constructor
 ·intro h; injection h with h1 h2 h3 h4; exact ⟨h1, h2, h3, h4⟩
 ·rintro ⟨h1, h2, h3, h4⟩; rw [h1, h2, h3, h4]
theorem st_iff {s s' : St} : s = s' ↔ s.tm = s'.tm ∧ s.vt = s'.vt ∧ s.b = s'.b ∧ s.t = s'.t ∧ s.l = s'.l ∧ s.cf = s'.cf ∧ s.sn = s'.sn := by
 constructor
 ·rintro rfl; exact ⟨rfl, rfl, rfl, rfl, rfl, rfl, rfl⟩
 ·rintro ⟨h1, h2, h3, h4, h5, h6, h7⟩
  cases s; cases s'
  dsimp only at *
  rw [h1, h2, h3, h4, h5, h6, h7]
theorem Sv.fit_of {s s' : Sv} {W W' : World} {ok ok' : Nat → Prop} (h' : s'.At W' ok') (h : s.At W ok) (hf : s.Fit) (e : s'.st = s.st) : s'.Fit := by
 obtain ⟨e1, e2, e3, e4, e5, e6, e7⟩ := st_iff.1 e
 have k1 : s'.tm = s.tm := e1
 have k2 : s'.vt = s.vt := e2
 have k3 : s'.b = s.b := e3
 have k4 : s'.t = s.t := e4
 have k5 : s'.L.map en = s.L.map en := e5
 have k6 : s'.cf = s.cf := e6
 have k7 : s'.sn = s.sn := e7
 have l1 := h'.l.flen ecell_len (by omega)
 have l2 := h.l.flen ecell_len (by omega)
 have l3 := congrArg List.length k5
 rw [List.length_map, List.length_map] at l3
 have l4 := ii_len h'.cf
 have l5 := ii_len h.cf
 have l6 := h'.sn.blen
 have l7 := h.sn.blen
 have l8 := hf.z
 refine ⟨by rw [k1, k2, k3, k4]; exact hf.i, fun y hy => ?_, by omega, by rw [k6] at l4; omega, by rw [k7] at l6; omega⟩
 have hm : en y ∈ s.L.map en := by rw [← k5]; exact List.mem_map_of_mem hy
 obtain ⟨x, hx, hxy⟩ := List.mem_map.1 hm
 obtain ⟨m1, m2, m3, m4⟩ := en_iff.1 hxy
 have m5 := (h'.d y hy).1.blen
 have m6 := (h.d x hx).1.blen
 have m7 := hf.w x hx
 rw [m4] at m6
 refine ⟨?_, by omega⟩
 have m8 := m7.1
 unfold W64 at m8 ⊢
 rw [← m1, ← m2, ← m3]
 exact m8
section
variable {fb n gb : Nat} {W W' W2 : World} {span : Int} {p : Nat → Nat} {g : Gs} {F F' : Nat → Prop} {k q : Nat}
def TellsC (fb : Nat) (W w1 : World) (n gb : Nat) (span : Int) (p : Nat → Nat) (g' : Gs) (F : Nat → Prop) (A : Option Addr) (n' c' : Nat) : Prop :=
 Calls Tryz.prog 31 #[.pointer (some ⟨gb, 0, none⟩), .slice A n' c'] w1 (TellsP fb W n gb span p g' F)
theorem gtick_any (h : GrIs fb W n gb span p g F) (hq : q < n) (ho : (g.C q).Ok k) (draw : Int) :
  Calls Tryz.prog 17 #[.pointer (some ⟨p q, 0, none⟩), .int .i64 draw] W (fun e w1 => ∃ A n' c', e = .returned (.slice A n' c') ∧ TellsC fb W w1 n gb span p (g.ticks q draw) F A n' c' ∧ KeepF (fun b => F b ∨ b = gb) W w1) := by
 obtain ⟨U, V, m, cells, N, nn, cn, NX, X, D, G, hnet, hdone, hF⟩ := h
 refine (tick_any draw (G.gx.cx q hq) ho G.en).mono ?_
 rintro e w1 ⟨A, n', c', Y, V', U', m', rfl, rm, hms, hat, cto⟩
 exact ⟨A, n', c', rfl, tells_after G hnet hdone hF hq (tick_few _ _) (tick_many ho.cf _) rm hms hat cto, KeepF.of_kept cto.kept fun b hb => hb.elim (fun hb => ⟨(hF b hb).2, fun h9 => (hF b hb).1 ((G.gx.cx q hq).vu b h9)⟩) fun e => by subst e; exact ⟨G.bx.lt, G.gu.2.2 q hq⟩⟩
theorem gask_any (h : GrIs fb W n gb span p g F) (hq : q < n) (ho : (g.C q).Ok k) (kd : Int) (D : Option Addr) (nd cd : Nat) (d : List UInt8) (hd : Rd W T 1 D nd (bs d)) (hnd : nd ≤ cd ∧ cd ≤ maxLen) :
  Calls Tryz.prog 19 #[.pointer (some ⟨p q, 0, none⟩), .int .i64 kd, .slice D nd cd] W (fun e w1 => ∃ A n' c', e = .returned (.tuple #[.int .i64 ((g.C q).propose kd d).2.1, .slice A n' c', errE ((g.C q).propose kd d).2.2.2]) ∧ TellsC fb W w1 n gb span p (g.asks q kd d) F A n' c' ∧ KeepF F W w1) := by
 obtain ⟨U, V, m, cells, N, nn, cn, NX, X, D', G, hnet, hdone, hF⟩ := h
 refine (propose_any kd D nd cd d (G.gx.cx q hq) ho G.en hd hnd).mono ?_
 rintro e w1 ⟨A, n', c', rfl, A2, n2, c2, Y, V', U', m', h9, rm, hms, hat, cto⟩
 injection h9 with h9
 injection h9 with h1 h2 h3
 subst h1
 subst h2
 subst h3
 exact ⟨A, n', c', rfl, tells_after (r := (((g.C q).propose kd d).1, ((g.C q).propose kd d).2.2.1)) G hnet hdone hF hq (propose_few _ _ _) (propose_many ho.cf _ _) rm hms hat cto, KeepF.of_kept cto.kept fun b hb => ⟨(hF b hb).2, fun h9 => (hF b hb).1 ((G.gx.cx q hq).vu b h9)⟩⟩
theorem gcomp_any (h : GrIs fb W n gb span p g F) (hq : q < n) (ho : (g.C q).Ok k) (ix : Int) (D : Option Addr) (nd cd : Nat) (d : List UInt8) (hd : Rd W F' 1 D nd (bs d)) (hF' : ∀ b, F' b → F b) (hnd : nd ≤ cd ∧ cd ≤ maxLen) :
  Calls Tryz.prog 76 #[.pointer (some ⟨p q, 0, none⟩), .int .i64 ix, .slice D nd cd] W (fun e w1 => e = .returned (errE ((g.C q).compact ix d).2) ∧ GrIs fb w1 n gb span p (g.letsGo q ix d) F ∧ KeepF F W w1) := by
 obtain ⟨U, V, m, cells, N, nn, cn, NX, X, D', G, hnet, hdone, hF⟩ := h
 refine (compact_any ix D nd cd d (G.gx.cx q hq) ho G.en (hd.mono fun b hb => (hF b (hF' b hb)).1) hnd).mono ?_
 rintro e w1 ⟨m', rfl, cto⟩
 refine ⟨rfl, ⟨_, _, _, _, _, _, _, NX, X, D', G.call hq cto, hnet, hdone, fun b hb => ⟨(hF b hb).1, Nat.lt_of_lt_of_le (hF b hb).2 cto.kept.size⟩⟩, KeepF.of_kept cto.kept fun b hb => ⟨(hF b hb).2, fun h9 => (hF b hb).1 ((G.gx.cx q hq).vu b h9)⟩⟩
theorem gview_any (h : GrIs fb W n gb span p g F) (hq : q < n) :
  Calls Tryz.prog 18 #[.pointer (some ⟨p q, 0, none⟩)] W (fun e w' => e = .returned (g.C q).viewV ∧ Below W.heap.size W w') := by
 obtain ⟨U, V, m, cells, N, nn, cn, NX, X, D', G, hnet, hdone, hF⟩ := h
 exact view_any (G.gx.cx q hq)
theorem gstored_any (h : GrIs fb W n gb span p g F) (hq : q < n) (ho : (g.C q).Ok k) :
  Calls Tryz.prog 21 #[.pointer (some ⟨p q, 0, none⟩)] W (StOwn W (g.C q).s) := by
 obtain ⟨U, V, m, cells, N, nn, cn, NX, X, D', G, hnet, hdone, hF⟩ := h
 exact stored_any (G.gx.cx q hq) ho
theorem gconf_any (h : GrIs fb W n gb span p g F) (hq : q < n) (ho : (g.C q).Ok k) :
  Calls Tryz.prog 48 #[.pointer (some ⟨p q, 0, none⟩)] W (ConfPost W (g.C q).members) := by
 obtain ⟨U, V, m, cells, N, nn, cn, NX, X, D', G, hnet, hdone, hF⟩ := h
 exact cconf_any (G.gx.cx q hq) ((G.gx.cx q hq).fit ho) ho.may G.en.ev
theorem GrIs.lt (h : GrIs fb W n gb span p g F) : gb < W.heap.size := by
 obtain ⟨U, V, m, cells, N, nn, cn, NX, X, D, a, b, c, d⟩ := h
 exact a.bx.lt
theorem GrIs.c8 (h : GrIs fb W n gb span p g F) : (∃ A c, W.cell? ⟨gb, 8, none⟩ = some (.slice A g.net.length c)) ∧ g.net.length ≤ 300 := by
 obtain ⟨U, V, m, cells, N, nn, cn, NX, X, D, a, b, c, d⟩ := h
 have e8 : NX.length = nn := (Rd.of_own a.ow).flen mcell_len (by omega)
 rw [← b, List.length_map, e8]
 exact ⟨⟨N, cn, (a.bx.c 8).trans a.net⟩, a.few⟩
theorem GrIs.spn (h : GrIs fb W n gb span p g F) : W.cell? ⟨gb, 7, none⟩ = some (.int .i64 span) := by
 obtain ⟨U, V, m, cells, N, nn, cn, NX, X, D, a, b, c, d⟩ := h
 exact (a.bx.c 7).trans a.sp
theorem gstored_fit (h : GrIs fb W n gb span p g F) (hq : q < n) (ho : (g.C q).Ok k) {s' : Sv} {ok : Nat → Prop} (ha : s'.At W' ok) (hs : s'.st = (g.C q).s) : s'.Fit := by
 obtain ⟨U, V, m, cells, N, nn, cn, NX, X, D', G, hnet, hdone, hF⟩ := h
 have hx := G.gx.cx q hq
 exact Sv.fit_of ha hx.at_ (hx.fit ho) (hs.trans hx.st.symm)
theorem GrIs.row (h : GrIs fb W n gb span p g F) (hq : q < 7) : ∃ cells A m c L, Bx W gb cells ∧ cells[9 + q]? = some (.slice A m c) ∧ Rd W T 4 A m (flat ecell L) ∧ Dat W L ∧ L.map en = g.done q ∧ L.length = m := by
 obtain ⟨U, V, mm, cells, N, nn, cn, NX, X, D', G, hnet, hdone, hF⟩ := h
 obtain ⟨A, m, c, h1, h2, h3, h4⟩ := G.dn.row q hq
 exact ⟨cells, A, m, c, D' q, G.bx, h1, (Rd.of_own h2).any, fun y hy => ⟨(h4 y hy).1.any, (h4 y hy).2⟩, hdone q hq, (Rd.of_own h2).flen ecell_len (by omega)⟩
end
end Go.Proofs.YtmhaahcbmdhinaaGreatDoor
namespace Go.Proofs.YtmhaahcbmdhinaaGreatDoor
set_option linter.unusedVariables false
set_option linter.unusedSimpArgs false
def LonL (l : List En) : Prop := l.length ≤ 1000 ∧ ∀ (i : Nat) (e : En), l[i]? = some e → e.a = (i : Int) + 1 ∧ e.b = 1 ∧ (e.c = 0 ∨ e.c = 1) ∧ e.d.length ≤ 4096
def lone0 (span wait g : Int) : Cr := ⟨⟨0, 0, 0, 0, [], [1], []⟩, 0, 0, 0, 0, 1, span, g, wait, [], fun _ => none, 0, []⟩
def lone1 (span wait : Int) (l : List En) (r : Int) : Cr := ⟨⟨1, 1, 0, 0, l, [1], []⟩, 2, 1, l.length, r, 1, span, 0, wait, [1], fun _ => none, 0, []⟩
theorem memE_none {l : List En} (h : ∀ e ∈ l, e.c ≠ 2) (u : Int) : memE l u = none := by
 unfold memE
 rw [List.find?_eq_none]
 intro e he
 have := h e (List.mem_reverse.1 he)
 simp [this]
theorem LonL.no2 {l : List En} (h : LonL l) : ∀ e ∈ l, e.c ≠ 2 := fun e he => by
 obtain ⟨i, hi⟩ := List.mem_iff_getElem?.1 he
 obtain ⟨_, _, h3, _⟩ := h.2 i e hi
 omega
theorem LonL.nil : LonL [] := ⟨by simp, fun i e h => by simp at h⟩
theorem LonL.snoc {l : List En} (h : LonL l) {kd : Int} {d : List UInt8} (hk : kd = 0 ∨ kd = 1) (hd : d.length ≤ 4096) (hl : l.length + 1 ≤ 1000) : LonL (l ++ [⟨(l.length : Int) + 1, 1, kd, d⟩]) := by
 refine ⟨by simp; omega, fun i e hi => ?_⟩
 rw [List.getElem?_append] at hi
 split at hi
 ·exact h.2 i e hi
 ·rename_i hlt
  have : i - l.length = 0 := by
   rcases Nat.eq_zero_or_pos (i - l.length) with h0 | h0
   ·exact h0
   ·rw [List.getElem?_eq_none (by simp; omega)] at hi; cases hi
  rw [this] at hi
  simp at hi
  subst hi
  exact ⟨by show (l.length : Int) + 1 = i + 1; omega, rfl, hk, hd⟩
theorem lon_lstA {l : List En} (h : LonL l) : lstA 0 l = l.length := by
 unfold lstA
 cases hl : l.getLast? with
 | none =>
  have : l = [] := List.getLast?_eq_none_iff.1 hl
  subst this
  rfl
 | some e =>
  rw [List.getLast?_eq_getElem?] at hl
  obtain ⟨h1, _⟩ := h.2 _ _ hl
  have : l.length - 1 < l.length := (List.getElem?_eq_some_iff.1 hl).1
  simp only [Option.map_some, Option.getD_some]
  omega
theorem lon_lstB {l : List En} (h : LonL l) (h0 : l ≠ []) : lstB 0 l = 1 := by
 unfold lstB
 cases hl : l.getLast? with
 | none => exact absurd (List.getLast?_eq_none_iff.1 hl) h0
 | some e =>
  rw [List.getLast?_eq_getElem?] at hl
  exact (h.2 _ _ hl).2.1
theorem lon_lstB_le {l : List En} (h : LonL l) : lstB 0 l ≤ 1 := by
 by_cases h0 : l = []
 ·subst h0; simp [lstB]
 ·rw [lon_lstB h h0]; omega
theorem lon_rgt {l : List En} (h : LonL l) : ∀ (k : Nat) (tm : Int), tm ≤ 1 → rgt 0 tm k (l.drop k) = true := by
 intro k
 generalize hm : l.length - k = m
 induction m generalizing k with
 | zero =>
  intro tm _
  rw [List.drop_eq_nil_of_le (by omega)]
  rfl
 | succ m ih =>
  intro tm ht
  have hk : k < l.length := by omega
  rw [List.drop_eq_getElem_cons hk, rgt, Bool.and_eq_true]
  obtain ⟨h1, h2, h3, h4⟩ := h.2 k l[k] (List.getElem?_eq_getElem hk)
  have hl := h.1
  refine ⟨?_, ?_⟩
  ·unfold okE
   simp only [Bool.and_eq_true, decide_eq_true_eq]
   omega
  ·rw [h2]
   exact ih (k + 1) (by omega) 1 (by omega)
theorem lon_lmay {l : List En} (h : LonL l) : lmay 0 0 l = true := by
 have h1 := lon_rgt h 0 0 (by omega)
 rw [List.drop_zero] at h1
 exact lmay_iff.2 ⟨.inl ⟨rfl, rfl⟩, by have := h.1; omega, h1⟩
theorem lon_addL {l : List En} (h : LonL l) {kd : Int} {d : List UInt8} (hk : kd = 0 ∨ kd = 1) : addL 0 0 l 1 kd d = if 4096 < d.length then (2, []) else (0, l ++ [⟨(l.length : Int) + 1, 1, kd, d⟩]) := by
 unfold addL
 have h1 := lon_lstA h
 have h2 := lon_lstB_le h
 have h3 := h.1
 rw [if_neg (by rw [h1]; omega)]
 split
 ·rfl
 ·rw [if_neg (by omega), h1]
section
variable {span wait r : Int} {l : List En}
theorem lon_members0 (C : Cr) (hc : C.s.cf = [1]) (hl : ∀ e ∈ C.s.l, e.c ≠ 2) : C.members = [1] := by
 unfold Cr.members Cr.upto
 rw [memE_none hl]
 exact hc
theorem lon_others (C : Cr) (hc : C.s.cf = [1]) (hl : ∀ e ∈ C.s.l, e.c ≠ 2) (hi : C.id = 1) : C.others = [] := by
 unfold Cr.others
 rw [lon_members0 C hc hl, hi]
 rfl
theorem lon_sendAll (C : Cr) (hc : C.s.cf = [1]) (hl : ∀ e ∈ C.s.l, e.c ≠ 2) (hi : C.id = 1) : C.sendAll = (C, []) := by
 unfold Cr.sendAll
 rw [lon_others C hc hl hi]
 rfl
theorem lon_agr (f : Int → Int) : agr [1] f = f 1 := by
 unfold agr
 rw [if_pos (by decide)]
 simp
theorem lon_reach (C : Cr) (hi : C.id = 1) (hp : C.peers = fun _ => none) (h0 : 0 ≤ C.last) : C.reach 1 = C.last := by
 unfold Cr.reach
 rw [hi, hp]
 simp
 omega
theorem lon_has : hasC [1] 1 = true := by decide
theorem lon_advance (C : Cr) (hc : C.s.cf = [1]) (hl : LonL C.s.l) (hi : C.id = 1) (hp : C.peers = fun _ => none) (hb : C.s.b = 0) (ht : C.s.t = 0) (htm : C.s.tm = 1) (h0 : C.s.l ≠ []) (hlt : C.commit < C.s.l.length) : C.advance = ({ C with commit := C.s.l.length }, []) := by
 have hla : C.last = C.s.l.length := by unfold Cr.last; rw [hb]; exact lon_lstA hl
 unfold Cr.advance
 dsimp only
 have hlen : 0 < C.s.l.length := List.length_pos_iff.2 h0
 rw [lon_members0 C hc hl.no2, lon_agr, lon_reach C hi hp (by omega), hla]
 have hte : C.termOf C.s.l.length = (0, C.s.tm) := by
  unfold Cr.termOf
  rw [hb, ht, compL_yes (lon_lmay hl)]
  unfold termL
  rw [lon_lstA hl, if_neg (by omega), if_neg (by omega), if_neg (by omega)]
  have hg : C.s.l[(((C.s.l.length : Nat) : Int) - 0 - 1).toNat]? = some C.s.l[C.s.l.length - 1] := by
   rw [show (((C.s.l.length : Nat) : Int) - 0 - 1).toNat = C.s.l.length - 1 by omega]
   exact List.getElem?_eq_getElem _
  rw [hg]
  have := (hl.2 _ _ (List.getElem?_eq_getElem (show C.s.l.length - 1 < C.s.l.length by omega))).2.1
  simp only [Option.map_some, Option.getD_some]
  rw [this, htm]
 rw [if_neg (by rw [hte]; simp; exact hlt), if_neg (by rw [hi, lon_has]; simp)]
 exact lon_sendAll { C with commit := C.s.l.length } hc hl.no2 hi
theorem lon_tell (C : Cr) (hc : C.s.cf = [1]) (hl : LonL C.s.l) (hi : C.id = 1) (hp : C.peers = fun _ => none) (hb : C.s.b = 0) (ht : C.s.t = 0) (htm : C.s.tm = 1) (h0 : C.s.l ≠ []) (hlt : C.commit < C.s.l.length) : C.tell = ({ C with commit := C.s.l.length }, []) := by
 unfold Cr.tell
 rw [lon_sendAll C hc hl.no2 hi]
 dsimp only
 rw [lon_advance C hc hl hi hp hb ht htm h0 hlt]
 rfl
theorem lone_tick0 {g : Int} (h : g + 1 < wait) (d : Int) : (lone0 span wait g).tick d = (lone0 span wait (g + 1), []) := by
 unfold Cr.tick
 dsimp only
 rw [if_neg (by show ¬ (0 : Int) = 2; decide), if_pos (by exact h)]
 rfl
theorem lone_lead {g : Int} (h : ¬ g + 1 < wait) (d : Int) : (lone0 span wait g).tick d = (lone1 span (drw span d) [⟨1, 1, 0, []⟩] 0, []) := by
 have hn : ∀ e ∈ ([] : List En), e.c ≠ 2 := by simp
 unfold Cr.tick
 dsimp only
 rw [if_neg (by show ¬ (0 : Int) = 2; decide), if_neg (by exact h)]
 have hm : Cr.may { lone0 span wait g with gone := 0 } = true := by
  unfold Cr.may
  rw [lon_members0 _ rfl hn]
  rfl
 rw [if_neg (by rw [show Cr.may { ({ lone0 span wait g with gone := (lone0 span wait g).gone + 1 } : Cr) with gone := 0 } = true from hm]; simp; show (0 : Int) < 1099511627776; decide)]
 unfold Cr.stand
 dsimp only
 have hm2 : ∀ C : Cr, C.s.cf = [1] → C.s.l = [] → C.members = [1] := fun C h1 h2 => lon_members0 C h1 (by rw [h2]; simp)
 rw [hm2 _ rfl rfl, if_pos (by show quor [1] [1] = true; decide)]
 unfold Cr.lead
 dsimp only
 rw [lon_others _ rfl hn rfl]
 have ha := lon_addL LonL.nil (kd := 0) (d := []) (.inl rfl)
 rw [if_neg (by simp)] at ha
 have hb : addL 0 0 [] ((0 : Int) + 1) 0 [] = (0, [⟨(0 : Int) + 1, 1, 0, []⟩]) := ha
 refine (if_pos ?_).trans ?_
 ·exact congrArg Prod.fst hb
 ·have h1 : LonL [⟨(0 : Int) + 1, 1, 0, []⟩] := by
   have := LonL.nil.snoc (kd := 0) (d := []) (.inl rfl) (by simp) (by simp)
   exact this
  refine (lon_tell _ rfl ?_ rfl rfl rfl rfl rfl ?_ ?_).trans ?_
  ·exact (congrArg Prod.snd hb).symm ▸ h1
  ·show (addL 0 0 [] ((0 : Int) + 1) 0 []).2 ≠ []
   rw [hb]; simp
  ·show (0 : Int) < ((addL 0 0 [] ((0 : Int) + 1) 0 []).2.length : Int)
   rw [hb]; simp
  ·refine Prod.ext ?_ rfl
   show Cr.mk (St.mk _ _ _ _ (addL 0 0 [] ((0 : Int) + 1) 0 []).2 _ _) _ _ ((addL 0 0 [] ((0 : Int) + 1) 0 []).2.length : Int) _ _ _ _ _ _ _ _ _ = _
   rw [hb]
   rfl
theorem lone_propose (hl : LonL l) (hn : l.length + 1 ≤ 1000) (h0 : l ≠ []) (d : List UInt8) : (lone1 span wait l r).propose 1 d = if 4096 < d.length then (lone1 span wait l r, 0, [], 2) else (lone1 span wait (l ++ [⟨(l.length : Int) + 1, 1, 1, d⟩]) r, (l.length : Int) + 1, [], 0) := by
 have ha := lon_addL hl (kd := 1) (d := d) (.inr rfl)
 unfold Cr.propose
 dsimp only
 rw [if_neg (by show ¬ (2 : Int) ≠ 2; simp), if_neg (by rintro ⟨h, _⟩; revert h; decide)]
 rw [show addL (lone1 span wait l r).s.b (lone1 span wait l r).s.t (lone1 span wait l r).s.l (lone1 span wait l r).s.tm 1 d = _ from ha]
 by_cases hd : 4096 < d.length
 ·rw [if_pos hd, if_pos hd, if_pos (by decide)]
 ·rw [if_neg hd, if_neg hd, if_neg (by simp)]
  have hs := hl.snoc (kd := 1) (d := d) (.inr rfl) (by omega) hn
  have ht := lon_tell ((lone1 span wait l r).withLog (l ++ [(⟨(l.length : Int) + 1, 1, 1, d⟩ : En)])) rfl hs rfl rfl rfl rfl rfl (by show l ++ _ ≠ []; simp) (by show (l.length : Int) < ((l ++ [(⟨(l.length : Int) + 1, 1, 1, d⟩ : En)]).length : Int); simp; omega)
  dsimp only
  rw [ht]
  have hlast : ((lone1 span wait l r).withLog (l ++ [⟨(l.length : Int) + 1, 1, 1, d⟩])).last = (l.length : Int) + 1 := by
   have := lon_lstA hs
   rw [List.length_append] at this
   exact this
  rw [hlast]
  rfl
end
end Go.Proofs.YtmhaahcbmdhinaaGreatDoor
