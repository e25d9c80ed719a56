/- Walk: the document's From.
   entry.From and the document's From: one contract each.
   Walk of entry.Merge where it refuses
   Plain member: what it makes of a message
   The map of the others, in memory: a map from numbers to four numbers.
   Walk: slices.Clone of members (of c10's XDelC). -/
import Derived.Test.YtmhaahcbmdhinaaGreatDoorZM15
import Derived.Test.YtmhaahcbmdhinaaGreatDoorZM14
import Derived.Test.YtmhaahcbmdhinaaGreatDoorZM12
import Derived.Test.YtmhaahcbmdhinaaGreatDoorZM9
import Derived.Test.YtmhaahcbmdhinaaGreatDoorZM10
import Derived.Test.YtmhaahcbmdhinaaGreatDoorZM5
import Derived.Maps.RangeWalk
import Derived.Test.YtmhaahcbmdhinaaGreatDoorZM1
namespace Go.Proofs.YtmhaahcbmdhinaaGreatDoor
open Go.RowKit
set_option maxRecDepth 100000
set_option linter.unusedVariables false
set_option linter.unusedSimpArgs false
theorem from_any (b t ix most : Int) (A : Option Addr) (n c : Nat) (L : List Er) (w : World) (hr : Rd w T 4 A n (flat ecell L)) (hd : Dat w L) (hs : ∀ x ∈ L, x.n ≤ 1000000) (hw : Wel L) (hn : n ≤ 1000000) (hnc : n ≤ c) (hcm : c ≤ maxLen) :
  Calls Tryz.prog 168 #[.agg #[.int .i64 b, .int .i64 t, .slice A n c], .int .i64 ix, .int .i64 most] w (FromPost w (fromL b t (L.map en) ix most)) := by
 by_cases hc : lmay b t (L.map en) = true ∧ b < ix ∧ ix ≤ lstA b (L.map en) ∧ 1 ≤ most
 ·obtain ⟨h1, h2, h3, h4⟩ := hc
  have e : fromL b t (L.map en) ix most = ((L.map en).drop (ix - b - 1).toNat).take most.toNat := by unfold fromL; rw [if_pos ⟨h1, h2⟩]
  rw [e]
  exact from_some b t ix most A n c L w hr hd hs hw hn hnc hcm h1 h2 h3 h4
 ·have hq : lmay b t (L.map en) = true ∨ lmay b t (L.map en) = false := by cases lmay b t (L.map en) <;> simp
  have hcase : lmay b t (L.map en) = false ∨ (lmay b t (L.map en) = true ∧ (ix ≤ b ∨ (b < ix ∧ (lstA b (L.map en) < ix ∨ (ix ≤ lstA b (L.map en) ∧ most < 1))))) := by
   rcases hq with hq | hq
   ·right
    refine ⟨hq, ?_⟩
    by_cases h1 : ix ≤ b
    ·exact .inl h1
    ·right
     refine ⟨by omega, ?_⟩
     by_cases h2 : lstA b (L.map en) < ix
     ·exact .inl h2
     ·refine .inr ⟨by omega, ?_⟩
      by_cases h3 : most < 1
      ·exact h3
      ·exact absurd ⟨hq, by omega, by omega, by omega⟩ hc
   ·exact .inl hq
  refine (from_nil b t ix most A n c L w hr hw hn hcase).mono ?_
  rintro e w' ⟨rfl, hb⟩
  refine ⟨none, 0, 0, [], rfl, Ro.nil _ _, ?_, hb⟩
  rw [fromL_nil (fun h => lmay_last h) ?_]
  ·rfl
  ·rcases hcase with h | ⟨_, h | ⟨_, h | ⟨_, h⟩⟩⟩
   ·exact .inl h
   ·exact .inr (.inl h)
   ·exact .inr (.inr (.inl h))
   ·exact .inr (.inr (.inr h))
attribute [local go_sem ↓] Go.wp_at_zero Go.wp_at_succ
theorem Mg.far {W : World} {B cB n c : Nat} {b t : Int} {C : Option Addr} {cl : List Er} (h : Mg W B cB b t C n c cl) {p : Addr} (hp : p.block < B) (v : Value) : Mg (W.setCell p v) B cB b t C n c cl := by
 have hle := h.le
 have hg : W.grownBy (W.setCell p v) (some p.block) := ⟨rfl, rfl, rfl, by simp [World.setCell], fun k _ hk => Below.heap_setCell _ _ _ k (fun e => hk (by rw [e]))⟩
 refine ⟨h.bx.far (by omega) v, h.ow.kept hg ?_, h.le, h.nb, fun y hy => ⟨(h.dt y hy).1.setCell (fun q => by have := q.1; omega) v, (h.dt y hy).2⟩⟩
 rcases C with _ | a
 ·exact .inl rfl
 ·right
  intro e
  have := (own_lt h.ow a.block rfl).1
  have e' : some a.block = some p.block := e
  injection e' with e'
  omega
end Go.Proofs.YtmhaahcbmdhinaaGreatDoor
namespace Go.Proofs.YtmhaahcbmdhinaaGreatDoor
set_option linter.unusedVariables false
set_option linter.unusedSimpArgs false
def mergeB (b t : Int) (l : List En) (ix tm : Int) (more : List En) : Prop :=
 lmay b t l = true ∧ 0 ≤ ix ∧ rgt ix tm 0 more = true ∧ ix ≤ lstA b l ∧ ¬ ((termL b t l ix).1 = 0 ∧ b < ix ∧ (termL b t l ix).2 ≠ tm) ∧ lmay b t (mloop b (l, max ix b) more).1 = true
def mergeR (b : Int) (l : List En) (ix : Int) (more : List En) : List En × Int := mloop b (l, max ix b) more
end Go.Proofs.YtmhaahcbmdhinaaGreatDoor
namespace Go.Proofs.YtmhaahcbmdhinaaGreatDoor
open Go.RowKit
set_option maxRecDepth 100000
set_option linter.unusedVariables false
set_option linter.unusedSimpArgs false
def MgCase (b t : Int) (l : List En) (yes : Prop) (R : List En × Int) (b' t' : Int) (l' : List En) (k : Int) (o : Bool) : Prop :=
 (o = true ∧ yes ∧ b' = b ∧ t' = t ∧ l' = R.1 ∧ k = R.2) ∨ (o = false ∧ ¬ yes ∧ lmay b t l = true ∧ b' = b ∧ t' = t ∧ l' = l) ∨ (o = false ∧ ¬ yes ∧ lmay b t l = false ∧ b' = 0 ∧ t' = 0 ∧ l' = [])
end Go.Proofs.YtmhaahcbmdhinaaGreatDoor
namespace Go.Proofs.YtmhaahcbmdhinaaGreatDoor
set_option linter.unusedVariables false
set_option linter.unusedSimpArgs false
def rdE (l : List En) : Bool := l.all fun e => !rbad e.c e.d
def mergeOk (b t : Int) (l : List En) (ix tm : Int) (more : List En) : Bool :=
 lmay b t l && decide (0 ≤ ix) && rgt ix tm 0 more && decide (ix ≤ lstA b l) && !(decide ((termL b t l ix).1 = 0) && decide (b < ix) && !decide ((termL b t l ix).2 = tm)) && lmay b t (mloop b (l, max ix b) more).1
theorem mergeOk_iff {b t : Int} {l : List En} {ix tm : Int} {more : List En} : mergeOk b t l ix tm more = true ↔ mergeB b t l ix tm more := by
 unfold mergeOk mergeB
 simp only [Bool.and_eq_true, decide_eq_true_eq, Bool.not_eq_true', Bool.and_eq_false_iff, decide_eq_false_iff_not]
 constructor
 ·rintro ⟨⟨⟨⟨⟨h1, h2⟩, h3⟩, h4⟩, h5⟩, h6⟩
  refine ⟨h1, h2, h3, h4, ?_, h6⟩
  rintro ⟨k1, k2, k3⟩
  rcases h5 with (h | h) | h
  ·exact h k1
  ·exact h k2
  ·simp at h; exact k3 h
 ·rintro ⟨h1, h2, h3, h4, h5, h6⟩
  refine ⟨⟨⟨⟨⟨h1, h2⟩, h3⟩, h4⟩, ?_⟩, h6⟩
  by_cases k1 : (termL b t l ix).1 = 0
  ·by_cases k2 : b < ix
   ·right
    by_cases k3 : (termL b t l ix).2 = tm
    ·simp [k3]
    ·exact absurd ⟨k1, k2, k3⟩ h5
   ·exact .inl (.inr k2)
  ·exact .inl (.inl k1)
def within1 (lo hi n : Int) : Bool := decide (lo ≤ n) && decide (n ≤ hi)
def oddE (e : En) : Bool := !(within1 1 1099511627776 e.a && within1 1 1099511627776 e.b) || !within1 0 2 e.c || decide (4096 < e.d.length)
namespace Ms
variable (m : Ms)
def may : Bool := within1 1 6 m.kind && (within1 1 64 m.fr && within1 1 64 m.dst) && !decide (m.fr = m.dst) && within1 1 1099511627776 m.term &&
 (within1 0 1099511627776 m.ix && within1 0 1099511627776 m.lt && within1 0 1099511627776 m.cm && within1 0 1099511627776 m.rd && within1 0 1099511627776 m.off) &&
 decide (m.data.length ≤ 4096) && decide (m.es.length ≤ 64) && m.es.all fun e => !oddE e
def ahead : Bool := (m.es.any fun e => decide (m.term < e.b)) || decide (m.term < m.lt)
end Ms
namespace Cr
variable (C : Cr)
def vote (m : Ms) (draw : Int) : Cr × List Ms :=
 let ok := decide (m.term = C.s.tm) && (decide (C.s.vt = 0) || decide (C.s.vt = m.fr)) && newB C.s.b C.s.t C.s.l m.ix m.lt
 (if ok = true then ({ C with s := { C.s with vt := m.fr } } : Cr).draws draw else C, [{ C.say 2 m.fr with ok := ok }])
def voted (m : Ms) : Cr × List Ms :=
 if C.role ≠ 1 ∨ m.term ≠ C.s.tm ∨ m.ok = false then (C, []) else
 let C1 : Cr := { C with votes := C.votes ++ [m.fr] }
 if quor C1.members C1.votes = true then C1.lead else (C1, [])
def led (m : Ms) (draw : Int) : Cr := (C.follow m.fr).draws draw
def against (m : Ms) : Bool := m.es.any fun e => decide (C.s.b < e.a) && decide (e.a ≤ C.commit) && !decide (C.termOf e.a = (0, e.b))
def add (m : Ms) (draw k : Int) : Cr × List Ms :=
 if m.term < C.s.tm then (C, [C.say 4 m.fr]) else
 if rdE m.es = false then (C, []) else
 let C1 := C.led m draw
 if C1.against m = true then (C1, []) else
 if mergeOk C1.s.b C1.s.t C1.s.l m.ix m.lt m.es = true then
  let r := mergeR C1.s.b C1.s.l m.ix m.es
  ({ C1.withLog r.1 with commit := max C1.commit (min m.cm r.2) }, [{ C.say 4 m.fr with rd := m.rd, ix := r.2, ok := true }])
 else (C1, [{ C.say 4 m.fr with rd := m.rd, ix := k }])
def has (who ix : Int) : Cr × List Ms :=
 let p := C.of who
 let mt := max p.mt (min ix C.last)
 let p2 : Pe := { p with mt := mt, nx := max p.nx (mt + 1) }
 let r := (C.put who p2).advance
 if r.1.role = 2 ∧ p.mt < mt ∧ p2.nx ≤ r.1.last then (r.1, r.2 ++ [r.1.send who]) else r
def told (m : Ms) : Cr × List Ms :=
 let p0 := C.of m.fr
 let p : Pe := { p0 with rd := max p0.rd m.rd }
 let C1 := C.put m.fr p
 if m.ok = true then C1.has m.fr m.ix else
 if m.kind = 4 then
  let C2 := C1.put m.fr { p with nx := max (p.mt + 1) (min (m.ix + 1) (p.nx - 1)), of := 0 }
  (C2, [C2.send m.fr])
 else if m.ix ≠ C1.s.b ∨ C1.s.b < p.nx then (C1, []) else
  let C2 := C1.put m.fr { p with of := if m.off < C1.handed.length then m.off else 0 }
  (C2, [C2.send m.fr])
def install (m : Ms) (text : List UInt8) : Option Cr :=
 let a := bytesS 1048576 (text, 0)
 let b := bytesS 1048576 a.1
 match confD a.2 with
 | none => none
 | some cf => if doneS b.1 ≠ 0 then none else
  some { C with s := { C.s with b := m.ix, t := m.lt, l := if C.termOf m.ix = (0, m.lt) then C.s.l.drop (m.ix - C.s.b).toNat else [], cf := cf, sn := b.2 }, commit := m.ix }
def take (m : Ms) (draw : Int) : Cr × List Ms :=
 if m.term < C.s.tm then (C, [{ C.say 6 m.fr with ix := m.ix }]) else
 let C1 := C.led m draw
 let out : Ms := { C.say 6 m.fr with ix := m.ix, rd := m.rd }
 if m.ix ≤ C1.commit then (C1, [{ out with ok := true }]) else
 let r := putR C1.key C1.hv m.ix m.off m.data m.ok
 let C2 : Cr := { C1 with key := r.1, hv := r.2.1 }
 if r.2.2.2.2 = false then (C2, [{ out with off := r.2.2.2.1 }]) else
 if m.lt < 1 then (C2, []) else
 match C2.install m r.2.2.1 with
 | none => (C2, [out])
 | some C3 => (C3, [{ out with ok := true }])
def newer (m : Ms) : Cr := if C.s.tm < m.term then ({ C with s := { C.s with tm := m.term, vt := 0 } } : Cr).follow 0 else C
def step (m : Ms) (draw k : Int) : Cr × List Ms :=
 if m.may = false ∨ m.dst ≠ C.id ∨ m.ahead = true then (C, []) else
 let C1 := C.newer m
 if m.kind = 1 then C1.vote m draw else if m.kind = 2 then C1.voted m else if m.kind = 3 then C1.add m draw k else if m.kind = 5 then C1.take m draw else
 if C1.role ≠ 2 ∨ m.term ≠ C1.s.tm then (C1, []) else C1.told m
end Cr
end Go.Proofs.YtmhaahcbmdhinaaGreatDoor
namespace Go.Proofs.YtmhaahcbmdhinaaGreatDoor
open Go.RowKit
set_option linter.unusedVariables false
set_option linter.unusedSimpArgs false
def peV (p : Pe) : Value := .agg #[.int .i64 p.nx, .int .i64 p.mt, .int .i64 p.of, .int .i64 p.rd]
def peD (p : Pe) : DataW Unit := .agg [.lit (.int .i64 p.nx), .lit (.int .i64 p.mt), .lit (.int .i64 p.of), .lit (.int .i64 p.rd)]
def peL : List Value → Option (DataW Unit × List MemPlace)
 | [.int .i64 a, .int .i64 b, .int .i64 c, .int .i64 d] => some (peD ⟨a, b, c, d⟩, [])
 | _ => none
def peR : Value → Option (DataW Unit × List MemPlace)
 | .agg cs => peL cs.toList
 | _ => none
def pe0 : Pe := ⟨0, 0, 0, 0⟩
theorem peR_mk (p : Pe) : peR (peV p) = some (peD p, []) := rfl
theorem peR_inv {v : Value} {y : DataW Unit × List MemPlace} (h : peR v = some y) : ∃ p, v = peV p ∧ y = (peD p, []) := by
 unfold peR at h
 split at h
 ·rename_i cs
  obtain ⟨l⟩ := cs
  dsimp only at h
  unfold peL at h
  split at h
  ·rename_i a b c d
   injection h with h
   exact ⟨⟨a, b, c, d⟩, rfl, h.symm⟩
  ·cases h
 ·cases h
theorem peD_inj {p q : Pe} (h : peD p = peD q) : p = q := by
 unfold peD at h
 simp only [DataW.agg.injEq, List.cons.injEq, DataW.lit.injEq, Lit.int.injEq, and_true, true_and] at h
 cases p; cases q
 simp_all
theorem int_key : Maps.Keyed Tryz.prog 3 := Maps.int_keyed Tryz.underlying3
theorem pe_zero (W : World) : (zeroValue 130).run Tryz.prog W = .ok (peV pe0) W := by kernel_rfl
theorem i64_wf {z : Int} (h : I64 z) : (Lit.int .i64 z).wf = true := WalkArith.wf_i64 h
theorem nod_len : ∀ (m : Nat) (xs : List Int), xs.Pairwise (· ≠ ·) → (∀ x ∈ xs, 1 ≤ x ∧ x ≤ (m : Int)) → xs.length ≤ m
 | 0, xs, _, h => by
  cases xs with
  | nil => exact Nat.le_refl _
  | cons x r => have := h x (by simp); omega
 | m + 1, xs, hp, h => by
  by_cases hm : ((m : Int) + 1) ∈ xs
  ·obtain ⟨a, b, rfl⟩ := List.append_of_mem hm
   rw [List.pairwise_append, List.pairwise_cons] at hp
   obtain ⟨h1, ⟨h2, h3⟩, h4⟩ := hp
   have := nod_len m (a ++ b) (List.pairwise_append.2 ⟨h1, h3, fun x hx y hy => h4 x hx y (List.mem_cons_of_mem _ hy)⟩) (fun x hx => by
    rcases List.mem_append.1 hx with hx | hx
    ·have k1 := h x (by simp [hx])
     have k2 := h4 x hx ((m : Int) + 1) (by simp)
     exact ⟨k1.1, by have := k1.2; omega⟩
    ·have k1 := h x (by simp [hx])
     have k2 := h2 x hx
     exact ⟨k1.1, by have := k1.2; omega⟩)
   simp at this ⊢
   omega
  ·have := nod_len m xs hp fun x hx => ⟨(h x hx).1, by
    have k1 := (h x hx).2
    have k2 : x ≠ (m : Int) + 1 := fun e => hm (e ▸ hx)
    omega⟩
   omega
structure PmD (D : DataW Unit) (f : Int → Option Pe) : Prop where
 at_ : ∀ who z, D.atKey (.int .i64 who) z = (f who).elim z peD
 has_ : ∀ who, Maps.has D (.int .i64 who) = (f who).isSome
 key : ∀ who, (f who).isSome = true → 1 ≤ who ∧ who ≤ 64
 lit : ∀ kl, Maps.has D kl = true → ∃ who, kl = .int .i64 who
theorem PmD.size {D : DataW Unit} {f : Int → Option Pe} (h : PmD D f) (he : ∃ es, D = .map es ∧ es.Pairwise (fun p q => p.1 ≠ q.1) ∧ ∀ p ∈ es, WideAt.IsKeyLit p.1) : Maps.size D ≤ 64 := by
 obtain ⟨es, rfl, hp, hkl⟩ := he
 have hk : ∀ p ∈ es, ∃ who, p.1 = .int .i64 who ∧ 1 ≤ who ∧ who ≤ 64 := fun p hp' => by
  have hh : Maps.has (.map es) p.1 = true := by
   rw [Maps.has_eq]
   exact List.any_eq_true.2 ⟨p, hp', WideAt.sameKey_self (hkl p hp')⟩
  obtain ⟨who, e⟩ := h.lit p.1 hh
  exact ⟨who, e, h.key who (by rw [← h.has_, ← e]; exact hh)⟩
 have := nod_len 64 (es.map fun p => match p.1 with | .int _ z => z | _ => 0) (by
  rw [List.pairwise_map]
  refine List.Pairwise.imp_of_mem ?_ hp
  intro p q h1 h2 hne
  obtain ⟨a, ea, _⟩ := hk p h1
  obtain ⟨b, eb, _⟩ := hk q h2
  rw [ea, eb] at hne ⊢
  exact fun e => hne (by rw [show a = b from e])) (by
  intro x hx
  obtain ⟨p, h1, rfl⟩ := List.mem_map.1 hx
  obtain ⟨a, ea, h2⟩ := hk p h1
  rw [ea]
  exact h2)
 rw [Maps.size_eq]
 simpa using this
def Pm (W : World) (b : Nat) (f : Int → Option Pe) : Prop := ∃ D, W.ownsMap Tryz.prog 3 peR b 64 D ∧ PmD D f
section
variable {W W' : World} {b : Nat} {f : Int → Option Pe}
theorem owns_tight {n : Nat} {D : DataW Unit} (h : W.ownsMap Tryz.prog 3 peR b n D) : W.ownsMap Tryz.prog 3 peR b (Maps.size D) D := by
 obtain ⟨es, clock, hb, F, hs, rfl⟩ := h
 exact ⟨es, clock, hb, F, by rw [Maps.size_eq, length_sorted]; simp, rfl⟩
theorem Pm.of {n : Nat} {D : DataW Unit} (h : W.ownsMap Tryz.prog 3 peR b n D) (hd : PmD D f) : Pm W b f := ⟨D, (owns_tight h).mono (hd.size (h.entries int_key)), hd⟩
theorem Pm.lt (h : Pm W b f) : b < W.heap.size := by obtain ⟨D, h1, _⟩ := h; exact h1.lt
theorem Pm.keep (h : Pm W b f) (hk : W'.heap[b]? = W.heap[b]?) : Pm W' b f := by
 obtain ⟨D, ⟨es, clock, hb, F, hs, hD⟩, h2⟩ := h
 exact ⟨D, ⟨es, clock, hk.trans hb, F, hs, hD⟩, h2⟩
theorem Pm.below (h : Pm W b f) (hb : Below W.heap.size W W') : Pm W' b f := h.keep (hb.block b h.lt)
theorem pmd_nil : PmD (.map []) fun _ => none := ⟨fun _ _ => rfl, fun _ => rfl, (fun _ h => by cases h), (fun _ h => by cases h)⟩
theorem Pm.made_at (h : W.heap[b]? = some (.map #[] 0)) : Pm W b fun _ => none := by
 obtain ⟨es, clock, hb, F, hs, hD⟩ := World.ownsMap_made (H := Unit) W Tryz.prog 3 peR
 rw [heap_alloc_new] at hb
 injection hb with hb
 injection hb with h1 h2
 subst h1 h2
 exact Pm.of (n := 0) (D := .map []) ⟨#[], 0, h, F, hs, hD⟩ pmd_nil
theorem Pm.look (h : Pm W b f) {who : Int} (hw : I64 who) : (Instr.lookup 106 (.map (some b)) (.int .i64 who) true).run Tryz.prog W = .ok (.tuple #[peV ((f who).getD pe0), .bool (f who).isSome]) W := by
 obtain ⟨D, ⟨es, clock, hb, F, hs, rfl⟩, hd⟩ := h
 have hk := Maps.keyOf_int_mk Tryz.underlying3 (i64_wf hw)
 rcases Maps.fit_look true int_key Tryz.underlying106 (pe_zero W) hb F hk with ⟨h1, h2, h3⟩ | ⟨e0, y, h1, h2, h3, h4, h5, _⟩
 ·have h6 : f who = none := by
   cases hf : f who with
   | none => rfl
   | some p =>
    have k1 := hd.at_ who (.lit (.int .i64 0))
    rw [h3, hf] at k1
    cases k1
  rw [h1, h6]
  rfl
 ·obtain ⟨p, hp, rfl⟩ := peR_inv h4
  have h6 : f who = some p := by
   have k1 := hd.at_ who (.lit (.int .i64 0))
   rw [h5] at k1
   cases hf : f who with
   | none => rw [hf] at k1; cases k1
   | some q => rw [hf] at k1; rw [peD_inj k1]
  rw [h3, h6, hp]
  rfl
theorem Pm.put (h : Pm W b f) {who : Int} (hw : 1 ≤ who ∧ who ≤ 64) (p : Pe) : ∃ w', (Instr.mapUpdate 106 (.map (some b)) (.int .i64 who) (peV p)).run Tryz.prog W = .ok () w' ∧ Pm w' b (fun x => if x = who then some p else f x) ∧ W.grownBy w' (some b) := by
 obtain ⟨D, ho, hd⟩ := h
 have hk := Maps.keyOf_int_mk Tryz.underlying3 (i64_wf (z := who) (by unfold I64; omega))
 obtain ⟨w', h1, h2, h3⟩ := ho.update int_key Tryz.underlying106 (by unfold maxLen; omega) hk (peR_mk p)
 have him : Maps.IsMap D := by obtain ⟨es, clock, _, _, _, rfl⟩ := ho; exact ⟨_, rfl⟩
 have hkl : WideAt.IsKeyLit (.int .i64 who) := int_key.key hk
 refine ⟨w', h1, Pm.of h2 ⟨fun x z => ?_, fun x => ?_, fun x hx => ?_, fun kl hkl' => ?_⟩, h3⟩
 ·by_cases e : x = who
  ·subst e
   rw [if_pos rfl, Maps.atKey_put_same him hkl]
   rfl
  ·rw [if_neg e, Maps.atKey_put_other (fun h => e (by injection h)), hd.at_]
 ·by_cases e : x = who
  ·subst e
   rw [if_pos rfl, Maps.has_put_same him hkl]
   rfl
  ·rw [if_neg e, Maps.has_put_other (fun h => e (by injection h)), hd.has_]
 ·by_cases e : x = who
  ·rw [e]; exact hw
  ·rw [if_neg e] at hx
   exact hd.key x hx
 ·by_cases e : kl = .int .i64 who
  ·exact ⟨who, e⟩
  ·rw [Maps.has_put_other e] at hkl'
   exact hd.lit kl hkl'
end
end Go.Proofs.YtmhaahcbmdhinaaGreatDoor
namespace Go.Proofs.YtmhaahcbmdhinaaGreatDoor
open Go.RowKit
set_option linter.unusedVariables false
set_option linter.unusedSimpArgs false
set_option maxRecDepth 100000
def OwnPost (W : World) (n : Nat) (l : List Int) (e : Ending) (w' : World) : Prop := ∃ A c, e = .returned (.slice A n c) ∧ w'.ownsRow W.heap.size 3 1 (.slice A n c) n (ii l) ∧ Below W.heap.size W w'
theorem eqlC (w : World) (A : Option Addr) (n c : Nat) : (binOp .eql 39 (.slice A n c) (.slice none 0 0)).run Tryz.prog w = .ok (.bool A.isNone) w := Lib.run_eql_slice_nil w 39 3 A n c 0 0 Tryz.underlying39
attribute [local go_sem] eqlC
theorem cloneC_any (A : Option Addr) (n c : Nat) (l : List Int) (w : World) {ok : Nat → Prop} (hr : Rd w ok 1 A n (ii l)) (hn : n ≤ 1000000) :
  Calls Tryz.prog 97 #[.slice A n c] w (OwnPost w n l) := by
 have h1 := ii_one l
 cases A with
 | none =>
  obtain ⟨rfl, h0⟩ := hr.nil_of_none
  obtain rfl : l = [] := by simpa [ii] using h0
  go_enter Tryz.func97, Tryz.ntmps97
  go_wp2_with fail
  go_ret
  exact ⟨_, _, rfl, ⟨by simp [ii], .inl ⟨rfl, rfl⟩⟩, Below.refl _ _⟩
 | some ad =>
  go_enter Tryz.func97, Tryz.ntmps97
  go_wp2_with (at_builtin; refine wpList_append_any _ Tryz.underlying39 int_elem rfl (by omega) rfl rfl rfl (own_new w w.heap.size 3 1 (Nat.le_refl _)) rfl (hr.alloc _) h1 (by omega) (by simp) (Nat.zero_add _) (List.nil_append _) ?_; intro A1 c1 w1 hown1 hg1 hat1)
  go_ret
  exact ⟨_, _, rfl, hown1, ((Below.refl _ _).alloc (Nat.le_refl _) _).grown hg1 (by simp) (by simp)⟩
end Go.Proofs.YtmhaahcbmdhinaaGreatDoor
