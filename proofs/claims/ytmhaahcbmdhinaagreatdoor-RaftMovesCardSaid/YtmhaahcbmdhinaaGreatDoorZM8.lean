/- Plain law: what is kept, as bytes, and read again: no program in sight.
   Plain law: what is kept, with its number, as bytes, and read again: no program in sight.
   Walks of entry.own, owns.
   Plain law of logs: what is left behind an index.
   Walk of entry.Compact, of any log
   entry.Compact at the log's own base: the log, of its own. -/
import Derived.Test.YtmhaahcbmdhinaaGreatDoorZM6
import Derived.Test.YtmhaahcbmdhinaaGreatDoorZM7
namespace Go.Proofs.YtmhaahcbmdhinaaGreatDoor
set_option linter.unusedVariables false
set_option linter.unusedSimpArgs false
theorem dec_len {u : Nat} (hu : u < 18446744073709551616) : (Lib.decDigits u).length ≤ 20 := dig_size u hu
theorem cmay_small {l : List Int} (h : cmay l = true) : 1 ≤ l.length ∧ l.length ≤ 7 ∧ ∀ z ∈ l, 0 ≤ z ∧ z ≤ 64 := by
 obtain ⟨h1, _, h2, h3⟩ := cmay_iff.1 h
 exact ⟨h2, h3, fun z hz => by have := h1 z hz; omega⟩
structure St where
 tm : Int
 vt : Int
 b : Int
 t : Int
 l : List En
 cf : List Int
 sn : List UInt8
def encI (e : En) : List UInt8 := encN (uN e.a) (uN e.b) (uN e.c) e.d
def St.may (s : St) : Bool :=
 lmay s.b s.t s.l && cmay s.cf && (s.l.all fun e => !rbad e.c e.d) && decide (lstB s.t s.l ≤ s.tm) && decide (s.tm ≤ 1099511627776) && decide (0 ≤ s.vt) && decide (s.vt ≤ 64)
theorem smay_st (tm vt b t : Int) (L : List Er) (cf : List Int) (sn : List UInt8) : smay tm vt b t L cf = St.may ⟨tm, vt, b, t, L.map en, cf, sn⟩ := by
 unfold smay St.may rdok
 simp only [List.all_map]
 rfl
def EnOk (e : En) : Prop := 1 ≤ e.a ∧ e.a ≤ 1099511627776 ∧ 1 ≤ e.b ∧ e.b ≤ 1099511627776 ∧ 0 ≤ e.c ∧ e.c ≤ 2 ∧ e.d.length ≤ 4096
theorem rgt_mem {ix : Int} : ∀ {tm : Int} {i : Nat} {l : List En}, rgt ix tm i l = true → ∀ e ∈ l, EnOk e := by
 intro tm i l
 induction l generalizing tm i with
 | nil => intro _ e he; cases he
 | cons x l ih =>
  intro h e he
  rw [rgt, Bool.and_eq_true] at h
  rcases List.mem_cons.1 he with rfl | he
  ·obtain ⟨h1, _, h2, _, h3, h4, h5, h6, h7⟩ := okE_iff.1 h.1
   exact ⟨h1, h2, h3, h4, h5, h6, h7⟩
  ·exact ih h.2 e he
theorem St.may_iff {s : St} (h : s.may = true) : lmay s.b s.t s.l = true ∧ cmay s.cf = true ∧ (0 ≤ s.b ∧ s.b ≤ 1099511627776 ∧ 0 ≤ s.t ∧ s.t ≤ 1099511627776) ∧ s.l.length ≤ 4096 ∧ (∀ e ∈ s.l, EnOk e) ∧ 0 ≤ s.tm ∧ s.tm ≤ 1099511627776 ∧ 0 ≤ s.vt ∧ s.vt ≤ 64 := by
 unfold St.may at h
 simp only [Bool.and_eq_true, decide_eq_true_eq] at h
 obtain ⟨⟨⟨⟨⟨⟨h1, h2⟩, h3⟩, h4⟩, h5⟩, h6⟩, h7⟩ := h
 have hm := h1
 unfold lmay at h1
 simp only [Bool.and_eq_true, Bool.or_eq_true, decide_eq_true_eq] at h1
 have hok := rgt_mem h1.2
 have hb : 0 ≤ s.b ∧ s.b ≤ 1099511627776 ∧ 0 ≤ s.t ∧ s.t ≤ 1099511627776 := by
  rcases h1.1.1 with ⟨h8, h9⟩ | h8 <;> omega
 refine ⟨hm, h2, hb, h1.1.2, hok, ?_, h5, h6, h7⟩
 rcases Nat.eq_zero_or_pos s.l.length with h0 | h0
 ·have : s.l = [] := List.length_eq_zero_iff.1 h0
  rw [this] at h4
  simp [lstB] at h4
  omega
 ·obtain ⟨e, he, _, h9⟩ := lstA_len (b := 0) h0
  have := hok e (List.mem_of_getElem? he)
  rw [h9] at h4
  unfold EnOk at this
  omega
theorem bytesL_len (d : List UInt8) (h : d.length < 18446744073709551616) : (bytesL d).length ≤ d.length + 22 := by
 have := dec_len h
 simp [bytesL]
 omega
end Go.Proofs.YtmhaahcbmdhinaaGreatDoor
namespace Go.Proofs.YtmhaahcbmdhinaaGreatDoor
open Go.RowKit
set_option maxRecDepth 100000
set_option linter.unusedVariables false
set_option linter.unusedSimpArgs false
theorem own1_any (x : Er) (w : World) (hr : Rd w T 1 x.A x.n (bs x.d)) (hn : x.n ≤ 1000000) :
  Calls Tryz.prog 59 #[.agg #[.int .i64 x.a, .int .i64 x.b, .int .i64 x.c, .slice x.A x.n x.m]] w (GivePost w x) := by
 have hcl := fun W (hb : Below w.heap.size w W) => clone_any x.A x.n x.m (bs x.d) W (hr.below hb) (bs_one _) (by omega)
 have Hcl := Lib.hid hcl
 clear hcl hr
 have hb0 : Below w.heap.size w ((w.alloc (.cells #[.int .i64 x.a, .int .i64 x.b, .int .i64 x.c, .slice x.A x.n x.m] 62)).alloc (.cells #[.int .i64 0, .int .i64 0, .int .i64 0, .slice none 0 0] 62)) := ((Below.refl _ _).alloc (Nat.le_refl _) _).alloc (by simp) _
 have XB := (Bx.new w #[.int .i64 x.a, .int .i64 x.b, .int .i64 x.c, .slice x.A x.n x.m] 62 rfl).alloc (.cells #[.int .i64 0, .int .i64 0, .int .i64 0, .slice none 0 0] 62)
 have XR := Bx.new (w.alloc (.cells #[.int .i64 x.a, .int .i64 x.b, .int .i64 x.c, .slice x.A x.n x.m] 62)) #[.int .i64 0, .int .i64 0, .int .i64 0, .slice none 0 0] 62 (g := w.heap.size + 1) (by simp)
 have HX := Lib.hid (And.intro XB XR)
 have Hb0 := Lib.hid hb0
 clear XB XR hb0
 go_enter Tryz.func59, Tryz.ntmps59
 go_wp2_with fail
 refine (Hcl.out _ Hb0.out).mono ?_
 rintro e w3 ⟨A3, c3, rfl, hown3, hb3⟩
 obtain ⟨p0, p1, p2, p3, f0, f1, f2, f3⟩ := (HX.out.1.below hb3).c4
 obtain ⟨r0, r1, r2, r3, g0, g1, g2, g3⟩ := (HX.out.2.below hb3).c4
 have hz3 := hb3.size
 simp only [World.size_alloc] at hz3
 have n1 : ¬ w.heap.size + 1 = w.heap.size := by omega
 have n2 : ¬ w.heap.size = w.heap.size + 1 := by omega
 have Ho := Lib.hid hown3
 have Hb3 := Lib.hid hb3
 clear hown3 hb3
 go_wp2_with fail
 refine bodyPost_ret (by simp [results, Tryz.results59, go_sem, r0, r1, r2, r3, n1, n2]; rfl) rfl ?_
 have hm := own_cap Ho.out
 have hb4 := Hb0.out.trans (Hb3.out.mono (by simp; omega))
 have h1 : ¬ w.heap.size + 1 + 1 ≤ w.heap.size := by omega
 have h2 : ¬ w.heap.size + 1 + 1 ≤ w.heap.size + 1 := by omega
 have r5 : Rd w3 (w.heap.size + 1 + 1 ≤ ·) 1 A3 x.n (bs x.d) := by have := Rd.of_own Ho.out; simpa using this
 refine ⟨A3, c3, rfl, ?_, hm.1, hm.2, ?_⟩
 ·exact (((((r5.setCell (p := ⟨w.heap.size, 3, none⟩) h1 _).setCell (p := ⟨w.heap.size + 1, 0, none⟩) h2 _).setCell (p := ⟨w.heap.size + 1, 1, none⟩) h2 _).setCell (p := ⟨w.heap.size + 1, 2, none⟩) h2 _).setCell (p := ⟨w.heap.size + 1, 3, none⟩) h2 _).mono fun b hb => by omega
 ·exact ((((hb4.setCell (Nat.le_refl _) _).setCell (by show w.heap.size ≤ w.heap.size + 1; omega) _).setCell (by show w.heap.size ≤ w.heap.size + 1; omega) _).setCell (by show w.heap.size ≤ w.heap.size + 1; omega) _).setCell (by show w.heap.size ≤ w.heap.size + 1; omega) _
set_option maxHeartbeats 1600000 in
theorem owns_any (A : Option Addr) (n c : Nat) (L : List Er) (w : World) {ok : Nat → Prop} (hr : Rd w ok 4 A n (flat ecell L)) (hd : Dat w L) (hs : ∀ x ∈ L, x.n ≤ 1000000) (hn : n ≤ 1000000) :
  Calls Tryz.prog 117 #[.slice A n c] w (GivesPost w n L) := by
 have Hll := Lib.hid (hr.flen ecell_len (by omega))
 have Hd := Lib.hid hd
 have Hs := Lib.hid hs
 have Hr := Lib.hid hr
 clear hd hs hr
 go_enter Tryz.func117, Tryz.ntmps117
 go_wp2_with fail
 go_loopg [3, 5, 8] n (fun m s3 s5 s8 wr => ∃ (j : Nat) (A' : Option Addr) (c' : Nat) (L' : List Er), m = n - j ∧ j ≤ n ∧ s8 = .int .i64 j ∧ s3 = .slice A' j c' ∧ Ro wr w.heap.size A' j c' L' ∧ Same (L.take j) L' ∧ Below w.heap.size w wr)
 case atStart => exact ⟨0, none, 0, [], by omega, by omega, rfl, rfl, Ro.nil _ _, rfl, Below.refl _ _⟩
 case round =>
  obtain ⟨j, A', c', L', hm, hj, rfl, rfl, hro, hsm, hb⟩ := hrel
  have Hm := Lib.hid hm
  have Ro1 := Lib.hid hro
  have Sm := Lib.hid hsm
  have Hb := Lib.hid hb
  clear hm hro hsm hb
  by_cases hlt : j < n
  ·obtain ⟨b, o, x, rfl, _, hbl, hx, c0, c1, c2, c3⟩ := er_cells (Hr.out.below Hb.out) hlt
   have hjI : (j : Int) < n := by omega
   have hdx := (Hd.out x (List.mem_of_getElem? hx)).1.below Hb.out
   have hxn := Hs.out x (List.mem_of_getElem? hx)
   have hg1 := fun ob => own1_any x (wr.alloc ob) (hdx.alloc ob) hxn
   have Hg1 := Lib.hid hg1
   have Hx := Lib.hid hx
   clear hdx hx hg1
   go_wp2_with fail
   refine (Hg1.out _).mono ?_
   rintro e w2 ⟨A2, m2, rfl, r2, hm1, hm2, hb2⟩
   replace hb2 := ((Below.refl wr.heap.size wr).alloc (Nat.le_refl _) (.cells #[.int .i64 x.a, .int .i64 x.b, .int .i64 x.c, .slice x.A x.n x.m] 62)).trans (hb2.mono (by simp))
   replace r2 := r2.mono (ok' := (wr.heap.size ≤ ·)) fun b hb => by simp at hb; omega
   have ro2 := Ro1.out.below hb2
   have hz2 := hb2.size
   have hz1 := Hb.out.size
   have R2 := Lib.hid r2
   have Ro2 := Lib.hid ro2
   have Hb2 := Lib.hid hb2
   clear r2 ro2 hb2
   go_wp2_with (at_builtin; refine wpList_append_any (news := [.int .i64 x.a, .int .i64 x.b, .int .i64 x.c, .slice A2 x.n m2]) _ Tryz.underlying36 ent_elem rfl (by omega) rfl rfl rfl (Ro2.out.alloc _).ow rfl (show Rd (w2.alloc (.cells #[.int .i64 x.a, .int .i64 x.b, .int .i64 x.c, .slice A2 x.n m2] 62)) T 4 (some ⟨w2.heap.size, 0, none⟩) 1 [.int .i64 x.a, .int .i64 x.b, .int .i64 x.c, .slice A2 x.n m2] from (Rd.lit4 _ _ rfl)) (by intro u hu; simp only [List.mem_cons, List.not_mem_nil, or_false] at hu; rcases hu with rfl | rfl | rfl | rfl <;> rfl) (by omega) (by simp; omega) rfl rfl ?_; intro A3 c3' w3 hown3 hg3 hat3)
   have hpush := (Ro2.out.alloc (.cells #[.int .i64 x.a, .int .i64 x.b, .int .i64 x.c, .slice A2 x.n m2] 62)).push (y := ⟨x.a, x.b, x.c, A2, x.n, m2, x.d⟩) ((R2.out.alloc _).mono fun b hb => ⟨by omega, fun e => by have := own_lt Ro1.out.ow b e; omega⟩) hm1 hm2 rfl hown3 hg3 hat3
   have hsm2 : Same (L.take (j + 1)) (L' ++ [⟨x.a, x.b, x.c, A2, x.n, m2, x.d⟩]) := by
    unfold Same
    rw [List.take_add_one, Hx.out, List.map_append, List.map_append, Sm.out]
    rfl
   have hb3 := (((Hb.out.trans (Hb2.out.mono Hb.out.size)).alloc (by omega) (.cells #[.int .i64 x.a, .int .i64 x.b, .int .i64 x.c, .slice A2 x.n m2] 62))).grown hg3 (by simp; omega) (fun q hq => (own_lt Ro1.out.ow q hq).1)
   go_roundg (n - (j + 1))
   case measure => have := Hm.out; omega
   case rel => exact ⟨j + 1, A3, c3', _, rfl, by omega, by go_num, rfl, hpush, hsm2, hb3⟩
  ·obtain rfl : j = n := by omega
   go_wp2_with fail
   go_ret
   exact ⟨A', c', L', rfl, Ro1.out, by have := Sm.out; rwa [List.take_of_length_le (Nat.le_of_eq Hll.out)] at this, Hb.out⟩
end Go.Proofs.YtmhaahcbmdhinaaGreatDoor
namespace Go.Proofs.YtmhaahcbmdhinaaGreatDoor
set_option linter.unusedVariables false
set_option linter.unusedSimpArgs false
theorem okE_shift {ix tm : Int} {k : Nat} {e : En} : okE ix tm (k + 1) e = okE (ix + 1) tm k e := by
 have : decide (e.a - ((k + 1 : Nat) : Int) - 1 = ix) = decide (e.a - (k : Int) - 1 = ix + 1) := by
  apply decide_eq_decide.2
  constructor <;> intro h <;> push_cast at * <;> omega
 unfold okE
 rw [this]
theorem rgt_shift {ix : Int} {l : List En} : ∀ {tm : Int} {k : Nat}, rgt ix tm (k + 1) l = rgt (ix + 1) tm k l := by
 induction l with
 | nil => intro tm k; rfl
 | cons e l ih =>
  intro tm k
  rw [rgt, rgt, okE_shift, ih]
def trm (tm : Int) (l : List En) : Nat → Int
 | 0 => tm
 | m + 1 => (l[m]?.map (·.b)).getD 0
theorem rgt_drop {l : List En} : ∀ {ix tm : Int} (m : Nat), rgt ix tm 0 l = true → m ≤ l.length → rgt (ix + m) (trm tm l m) 0 (l.drop m) = true := by
 induction l with
 | nil =>
  intro ix tm m h hm
  simp [rgt]
 | cons e l ih =>
  intro ix tm m h hm
  cases m with
  | zero => simpa [trm] using h
  | succ m =>
   rw [rgt, Bool.and_eq_true, Nat.zero_add, show (1 : Nat) = 0 + 1 from rfl, rgt_shift] at h
   have := ih m h.2 (by simpa using hm)
   rw [List.drop_succ_cons, show ix + ((m + 1 : Nat) : Int) = ix + 1 + m by push_cast; omega]
   cases m with
   | zero => simpa [trm] using this
   | succ m => simpa [trm] using this
theorem lmay_drop {b t ix : Int} {l : List En} {m : Nat} (h : lmay b t l = true) (hm : m ≤ l.length) (hx : ix = b + m) : termL b t l ix = (0, trm t l m) ∧ lmay ix (trm t l m) (l.drop m) = true ∧ lstA ix (l.drop m) = lstA b l ∧ lstB (trm t l m) (l.drop m) = lstB t l := by
 have hl := lmay_last h
 obtain ⟨h1, h2, h3⟩ := lmay_iff.1 h
 have ht : termL b t l ix = (0, trm t l m) := by
  unfold termL
  rw [if_neg (by omega), if_neg (by omega)]
  cases m with
  | zero => rw [if_pos (by simpa using hx)]; rfl
  | succ m =>
   rw [if_neg (by omega)]
   have e1 : (ix - b - 1).toNat = m := by omega
   rw [e1]
   rfl
 have hm2 : lmay ix (trm t l m) (l.drop m) = true := by
  refine lmay_iff.2 ⟨?_, by simp; omega, by rw [hx]; exact rgt_drop m h3 hm⟩
  cases m with
  | zero =>
   rw [show ix = b by simpa using hx]
   exact h1
  | succ m =>
   right
   have he := List.getElem?_eq_getElem (l := l) (i := m) (by omega)
   have := lmay_at h he
   simp only [trm, he, Option.map_some, Option.getD_some]
   omega
 refine ⟨ht, hm2, ?_, ?_⟩
 ·rw [lmay_last hm2, hl, List.length_drop]
  omega
 ·by_cases hml : m = l.length
  ·subst hml
   rw [List.drop_length]
   cases hll : l.length with
   | zero => rw [List.eq_nil_of_length_eq_zero hll]; rfl
   | succ k =>
    obtain ⟨e, he, _, hb⟩ := lstA_len (b := b) (l := l) (by omega)
    rw [hb t]
    have : l.length - 1 = k := by omega
    rw [this] at he
    simp [lstB, trm, he]
  ·obtain ⟨e, he, _, hb⟩ := lstA_len (b := b) (l := l) (by omega)
   obtain ⟨e', he', _, hb'⟩ := lstA_len (b := b) (l := l.drop m) (by simp; omega)
   rw [hb t, hb' _]
   rw [List.getElem?_drop, List.length_drop, show m + (l.length - m - 1) = l.length - 1 by omega, he] at he'
   rw [Option.some.inj he']
end Go.Proofs.YtmhaahcbmdhinaaGreatDoor
namespace Go.Proofs.YtmhaahcbmdhinaaGreatDoor
open Go.RowKit
set_option maxRecDepth 100000
set_option linter.unusedVariables false
set_option linter.unusedSimpArgs false
def DatB (w : World) (B : Nat) (l : List Er) : Prop := ∀ y ∈ l, Rd w (B ≤ ·) 1 y.A y.n (bs y.d) ∧ y.n ≤ y.m ∧ y.m ≤ maxLen
theorem DatB.set {w : World} {B : Nat} {l : List Er} (h : DatB w B l) {p : Addr} (hp : ¬ B ≤ p.block) (v : Value) : DatB (w.setCell p v) B l := fun y hy => ⟨(h y hy).1.setCell hp v, (h y hy).2⟩
theorem DatB.mono {w : World} {B B' : Nat} {l : List Er} (h : DatB w B l) (hB : B' ≤ B) : DatB w B' l := fun y hy => ⟨(h y hy).1.mono fun b hb => Nat.le_trans hB hb, (h y hy).2⟩
theorem own_mono {w : World} {B B' e size n c m : Nat} {A : Option Addr} {xs : List Value} (h : w.ownsRow B e size (.slice A n c) m xs) (hb : B' ≤ B) : w.ownsRow B' e size (.slice A n c) m xs := by
 refine ⟨h.1, ?_⟩
 rcases h.2 with hn | ⟨g, cap, cur, hv, hB, rest⟩
 ·exact .inl hn
 ·exact .inr ⟨g, cap, cur, hv, Nat.le_trans hb hB, rest⟩
theorem Ro.far {W : World} {B n c : Nat} {A : Option Addr} {l : List Er} (h : Ro W B A n c l) {p : Addr} (hp : p.block < B) (v : Value) : Ro (W.setCell p v) B A n c l := by
 have hg : W.grownBy (W.setCell p v) (some p.block) := ⟨rfl, rfl, rfl, by simp [World.setCell], fun k _ hk => Below.heap_setCell _ _ _ k (fun e => hk (by rw [e]))⟩
 refine ⟨h.ow.kept hg ?_, fun y hy => ⟨(h.dt y hy).1.setCell (fun q => by have := q.1; omega) v, (h.dt y hy).2⟩⟩
 rcases A with _ | a
 ·exact .inl rfl
 ·right
  intro e
  have := (own_lt h.ow a.block rfl).1
  have e' : some a.block = some p.block := e
  injection e' with e'
  omega
theorem Ro.datB {W : World} {B B0 n c : Nat} {A : Option Addr} {l : List Er} (h : Ro W B A n c l) (hB : B0 ≤ B) : DatB W B0 l := fun y hy => ⟨(h.dt y hy).1.mono fun b hb => Nat.le_trans hB hb.1, (h.dt y hy).2⟩
def CompPost (W : World) (b t ix : Int) (n : Nat) (L : List Er) (r : Int × Int) (e : Ending) (w' : World) : Prop :=
 if r.1 = 0 then ∃ A c L' m, e = .returned (.tuple #[.agg #[.int .i64 ix, .int .i64 r.2, .slice A (n - m) c], .nilIface]) ∧ m ≤ n ∧ ix = b + m ∧ Rd w' (W.heap.size ≤ ·) 4 A (n - m) (flat ecell L') ∧ DatB w' W.heap.size L' ∧ L'.map en = (L.map en).drop m ∧ (n - m ≤ c ∧ c ≤ maxLen) ∧ Below W.heap.size W w'
 else e = .returned (.tuple #[.agg #[.int .i64 0, .int .i64 0, .slice none 0 0], errC r.1]) ∧ Below W.heap.size W w'
set_option maxHeartbeats 1600000 in
theorem comp_any (b t ix : Int) (A : Option Addr) (n c : Nat) (L : List Er) (w : World) (hr : Rd w T 4 A n (flat ecell L)) (hd : Dat w L) (hw : Wel L) (hs : ∀ x ∈ L, x.n ≤ 1000000) (hm : lmay b t (L.map en) = true) (hn : n ≤ 1000000) (hnc : n ≤ c) (hcm : c ≤ maxLen) :
  Calls Tryz.prog 96 #[.agg #[.int .i64 b, .int .i64 t, .slice A n c], .int .i64 ix] w (CompPost w b t ix n L (termL b t (L.map en) ix)) := by
 have hr' := hr.lt (by omega)
 have hll := hr.flen ecell_len (by omega)
 have hlast := lmay_last hm
 rw [List.length_map, hll] at hlast
 have hbb := (lmay_iff.1 hm).1
 obtain ⟨W0, hW0⟩ : ∃ W0, W0 = (w.alloc (.cells #[.int .i64 b, .int .i64 t, .slice A n c] 38)).alloc (.cells #[.int .i64 0, .int .i64 0, .slice none 0 0] 38) := ⟨_, rfl⟩
 have b0 : Bx W0 w.heap.size #[.int .i64 b, .int .i64 t, .slice A n c] := by subst hW0; exact (Bx.new _ _ _ rfl).alloc _
 have F0 : Fr W0 (w.heap.size + 1) 3 W0 := by subst hW0; exact Fr.new (by simp) rfl
 have r0 : Rd W0 (· < w.heap.size) 4 A n (flat ecell L) := by subst hW0; exact ((hr'.mono fun b hb => hb.2).alloc _).alloc _
 have d0 : ∀ x ∈ L, Rd W0 (· < w.heap.size) 1 x.A x.n (bs x.d) ∧ x.n ≤ x.m ∧ x.m ≤ maxLen := by
  subst hW0
  exact fun x hx => ⟨(((((hd x hx).1.lt (by omega)).mono fun b hb => hb.2).alloc _).alloc _), (hd x hx).2⟩
 have hbe : Below w.heap.size w W0 := by subst hW0; exact ((Below.refl _ _).alloc (Nat.le_refl _) _).alloc (by simp) _
 have hz : W0.heap.size = w.heap.size + 2 := by subst hW0; simp
 have u0 : W0.cell? ⟨w.heap.size, 0, none⟩ = some (.int .i64 b) := b0.c 0
 have u1 : W0.cell? ⟨w.heap.size, 1, none⟩ = some (.int .i64 t) := b0.c 1
 have u2 : W0.cell? ⟨w.heap.size, 2, none⟩ = some (.slice A n c) := b0.c 2
 have sof : ∀ W, Fr W0 (w.heap.size + 1) 3 W → (Fr W0 (w.heap.size + 1) 3 W ∧ W.cell? ⟨w.heap.size, 0, none⟩ = some (.int .i64 b) ∧ W.cell? ⟨w.heap.size, 1, none⟩ = some (.int .i64 t) ∧ W.cell? ⟨w.heap.size, 2, none⟩ = some (.slice A n c) ∧ W.cell? ⟨w.heap.size + 1, 0, none⟩ = some (peek W (w.heap.size + 1) 0) ∧ W.cell? ⟨w.heap.size + 1, 1, none⟩ = some (peek W (w.heap.size + 1) 1) ∧ W.cell? ⟨w.heap.size + 1, 2, none⟩ = some (peek W (w.heap.size + 1) 2) ∧ W.frozen? ⟨w.heap.size + 1, 0, none⟩ = false ∧ W.frozen? ⟨w.heap.size + 1, 1, none⟩ = false ∧ W.frozen? ⟨w.heap.size + 1, 2, none⟩ = false) :=
  fun W F2 => ⟨F2, F2.cell (by omega) u0, F2.cell (by omega) u1, F2.cell (by omega) u2, F2.pk (by omega), F2.pk (by omega), F2.pk (by omega), F2.fz _, F2.fz _, F2.fz _⟩
 have hmm := fun W (h : Fr W0 (w.heap.size + 1) 3 W) => may_any b t A n c L W (h.rd r0 (by omega)) hw (by omega)
 have hlt := fun W (h : Fr W0 (w.heap.size + 1) 3 W) => term_any b t ix A n c L W (h.rd r0 (by omega)) hm (by omega)
 rw [hm] at hmm
 obtain ⟨r, hrr⟩ : ∃ r, termL b t (L.map en) ix = r := ⟨_, rfl⟩
 rw [hrr] at hlt ⊢
 have Hmm := Lib.hid hmm
 have Hlt := Lib.hid hlt
 have HW := Lib.hid hW0
 have s0 := sof _ F0
 have Hz := Lib.hid hz
 by_cases h0 : r.1 = 0
 ·have hin : b ≤ ix ∧ ix ≤ b + n := by
   unfold termL at hrr
   rw [hlast] at hrr
   split at hrr
   ·rw [← hrr] at h0; cases h0
   ·split at hrr
    ·rw [← hrr] at h0; cases h0
    ·omega
  obtain ⟨m, hmx⟩ : ∃ m : Nat, ix = b + m := ⟨(ix - b).toNat, by omega⟩
  have hmn : m ≤ n := by omega
  have wv : IntKind.i64.wrap (ix - b) = (m : Int) := by rw [IntKind.wrap_i64]; omega
  have hmc : maxLen = 9223372036854775807 := by decide
  have hsl : ∀ W, (Instr.sliceAt 36 (.slice A n c) (some (.int .i64 (m : Int))) none none).run Tryz.prog W = .ok (.slice (if c = m then A else A.map (·.add (m * 4))) (n - m) (c - m)) W := fun W => run_slice_lo (P := Tryz.prog) 36 Tryz.underlying36 (size := 4) (by kernel_rfl) A n c W m hmn
  have hrs : Rd W0 (· < w.heap.size) 4 (if c = m then A else A.map (·.add (m * 4))) (n - m) (flat ecell (L.drop m)) := by
   have := r0.sub (l := m) (k := n - m) (m := c) (by omega) (by omega)
   rw [← flat_drop ecell_len, List.take_of_length_le (by rw [flat_length ecell_len]; simp; omega)] at this
   exact this
  generalize (if c = m then A else A.map (·.add (m * 4))) = A5 at hsl hrs
  have how : ∀ W, Fr W0 (w.heap.size + 1) 3 W → Calls Tryz.prog 117 #[.slice A5 (n - m) (c - m)] W (fun e w' => ∃ A' c' L', e = .returned (.slice A' (n - m) c') ∧ Ro w' W.heap.size A' (n - m) c' L' ∧ Same (L.drop m) L' ∧ Below W.heap.size W w' ∧ W0.heap.size ≤ W.heap.size) := fun W h => (owns_any A5 (n - m) (c - m) (L.drop m) W (h.rd hrs (by omega)) (fun x hx => ⟨(h.rd (d0 x (List.mem_of_mem_drop hx)).1 (by omega)).any, (d0 x (List.mem_of_mem_drop hx)).2⟩) (fun x hx => hs x (List.mem_of_mem_drop hx)) (by omega)).mono fun e w' ⟨A', c', L', h1, h2, h3, h4⟩ => ⟨A', c', L', h1, h2, h3, h4, h.gr.size⟩
  have How := Lib.hid how
  have Hwv := Lib.hid (And.intro hmn hmx)
  have Hrr := Lib.hid hrr
  clear hW0 b0 u0 u1 u2 hr hr' hz r0 d0 hmm hlt how hd hs hw hm hrs hin hlast hbb hmx hmn hcm hmc hrr hll
  obtain ⟨r1, r2⟩ := r
  dsimp only at h0
  subst h0
  go_enter Tryz.func96, Tryz.ntmps96
  go_wp2_with fail
  rw [← HW.out]
  refine (Hmm.out _ F0).mono ?_
  rintro e w1 ⟨rfl, hb1⟩
  have F1 := F0.below hb1
  have s1 := sof _ F1
  go_split_ands
  go_wp2_with fail
  refine (Hlt.out _ F1).mono ?_
  rintro e w2 ⟨rfl, hb2⟩
  have F2 := F1.below hb2
  have s2 := sof _ F2
  go_split_ands
  have ec : errC 0 = .nilIface := rfl
  go_wp2_with fail
  refine (How.out _ (by assumption)).mono ?_
  rintro e w4 ⟨A4, c4, L4, rfl, ro4, sm4, hb4, z4⟩
  have F4 : Fr W0 (w.heap.size + 1) 3 w4 := Fr.below (by assumption) hb4
  have s4 := sof _ F4
  go_split_ands
  go_wp2_with fail
  have q0 : w4.cell? ⟨w.heap.size + 1, 0, none⟩ = some (peek w4 (w.heap.size + 1) 0) := F4.pk (by omega)
  have q1 : w4.cell? ⟨w.heap.size + 1, 1, none⟩ = some (peek w4 (w.heap.size + 1) 1) := F4.pk (by omega)
  have q2 : w4.cell? ⟨w.heap.size + 1, 2, none⟩ = some (peek w4 (w.heap.size + 1) 2) := F4.pk (by omega)
  have FF := Fr.set (Fr.set (Fr.set F4 0 (.int .i64 ix)) 1 (.int .i64 r2)) 2 (.slice A4 (n - m) c4)
  have hz := Hz.out
  refine bodyPost_ret (by simp [results, Tryz.results96, go_sem, q0, q1, q2]; rfl) rfl ?_
  have hcap := own_cap ro4.ow
  unfold CompPost
  rw [if_pos rfl]
  have rF := ((ro4.far (p := ⟨w.heap.size + 1, 0, none⟩) (by simp; omega) (.int .i64 ix)).far (p := ⟨w.heap.size + 1, 1, none⟩) (by simp; omega) (.int .i64 r2)).far (p := ⟨w.heap.size + 1, 2, none⟩) (by simp; omega) (.slice A4 (n - m) c4)
  refine ⟨A4, c4, L4, m, rfl, Hwv.out.1, Hwv.out.2, (Rd.of_own rF.ow).mono fun q hq => by omega, rF.datB (by omega), ?_, hcap, hbe.trans (FF.to_below (B := w.heap.size) (by omega))⟩
  rw [sm4, List.map_drop]
 ·have hek : errC r.1 = .iface 105 (.int .i64 r.1) := if_neg h0
  have hp : ∀ e w', (e = .returned (.tuple #[.agg #[.int .i64 0, .int .i64 0, .slice none 0 0], errC r.1]) ∧ Below w.heap.size w w') → CompPost w b t ix n L r e w' := fun e w' h => by unfold CompPost; rw [if_neg h0]; exact h
  have Hp := Lib.hid hp
  clear hW0 b0 u0 u1 u2 hr hr' hz r0 d0 hmm hlt hd hs hw hm hlast hbb hrr hll hp
  go_enter Tryz.func96, Tryz.ntmps96
  go_wp2_with fail
  rw [← HW.out]
  refine (Hmm.out _ F0).mono ?_
  rintro e w1 ⟨rfl, hb1⟩
  have F1 := F0.below hb1
  have s1 := sof _ F1
  go_split_ands
  go_wp2_with fail
  refine (Hlt.out _ F1).mono ?_
  rintro e w2 ⟨rfl, hb2⟩
  have F2 := F1.below hb2
  have s2 := sof _ F2
  go_split_ands
  rw [hek]
  go_wp2_with fail
  have q0 : w2.cell? ⟨w.heap.size + 1, 0, none⟩ = some (peek w2 (w.heap.size + 1) 0) := F2.pk (by omega)
  have q1 : w2.cell? ⟨w.heap.size + 1, 1, none⟩ = some (peek w2 (w.heap.size + 1) 1) := F2.pk (by omega)
  have q2 : w2.cell? ⟨w.heap.size + 1, 2, none⟩ = some (peek w2 (w.heap.size + 1) 2) := F2.pk (by omega)
  have FF := Fr.set (Fr.set (Fr.set F2 0 (.int .i64 0)) 1 (.int .i64 0)) 2 (.slice none 0 0)
  have hz := Hz.out
  refine bodyPost_ret (by simp [results, Tryz.results96, go_sem, q0, q1, q2]; rfl) rfl ?_
  exact Hp.out _ _ ⟨by rw [hek], hbe.trans (FF.to_below (B := w.heap.size) (by omega))⟩
def compL (b t : Int) (l : List En) (ix : Int) : Int × Int := if lmay b t l then termL b t l ix else (1, 0)
theorem compL_yes {b t ix : Int} {l : List En} (h : lmay b t l = true) : compL b t l ix = termL b t l ix := if_pos h
theorem compL_no {b t ix : Int} {l : List En} (h : lmay b t l = false) : compL b t l ix = (1, 0) := by unfold compL; rw [h]; rfl
theorem compA_any (b t ix : Int) (A : Option Addr) (n c : Nat) (L : List Er) (w : World) (hr : Rd w T 4 A n (flat ecell L)) (hd : Dat w L) (hw : Wel L) (hs : ∀ x ∈ L, x.n ≤ 1000000) (hn : n ≤ 1000000) (hnc : n ≤ c) (hcm : c ≤ maxLen) :
  Calls Tryz.prog 96 #[.agg #[.int .i64 b, .int .i64 t, .slice A n c], .int .i64 ix] w (CompPost w b t ix n L (compL b t (L.map en) ix)) := by
 by_cases hm : lmay b t (L.map en) = true
 ·rw [compL_yes hm]
  exact comp_any b t ix A n c L w hr hd hw hs hm hn hnc hcm
 ·rw [Bool.not_eq_true] at hm
  rw [compL_no hm]
  obtain ⟨W0, hW0⟩ : ∃ W0, W0 = (w.alloc (.cells #[.int .i64 b, .int .i64 t, .slice A n c] 38)).alloc (.cells #[.int .i64 0, .int .i64 0, .slice none 0 0] 38) := ⟨_, rfl⟩
  have F0 : Fr W0 (w.heap.size + 1) 3 W0 := by subst hW0; exact Fr.new (by simp) rfl
  have hbe : Below w.heap.size w W0 := by subst hW0; exact ((Below.refl _ _).alloc (Nat.le_refl _) _).alloc (by simp) _
  have r0 : Rd W0 T 4 A n (flat ecell L) := hr.below hbe
  have hmm := may_any b t A n c L W0 r0 hw hn
  rw [hm] at hmm
  have hp : ∀ e w', (e = .returned (.tuple #[.agg #[.int .i64 0, .int .i64 0, .slice none 0 0], errC 1]) ∧ Below w.heap.size w w') → CompPost w b t ix n L (1, 0) e w' := fun e w' h => by unfold CompPost; rw [if_neg (by decide)]; exact h
  have Hp := Lib.hid hp
  have Hmm := Lib.hid hmm
  have HW := Lib.hid hW0
  have he1 : errC 1 = .iface 105 (.int .i64 1) := rfl
  have He1 := Lib.hid he1
  clear hW0 hr hd hw hs hm hp hmm r0 hnc hcm he1
  go_enter Tryz.func96, Tryz.ntmps96
  go_wp2_with fail
  rw [← HW.out]
  refine Hmm.out.mono ?_
  rintro e w2 ⟨rfl, hb2⟩
  have F2 := F0.below hb2
  have q0 : w2.cell? ⟨w.heap.size + 1, 0, none⟩ = some (peek w2 (w.heap.size + 1) 0) := F2.pk (by omega)
  have q1 : w2.cell? ⟨w.heap.size + 1, 1, none⟩ = some (peek w2 (w.heap.size + 1) 1) := F2.pk (by omega)
  have q2 : w2.cell? ⟨w.heap.size + 1, 2, none⟩ = some (peek w2 (w.heap.size + 1) 2) := F2.pk (by omega)
  have g0 : w2.frozen? ⟨w.heap.size + 1, 0, none⟩ = false := F2.fz _
  have g1 : w2.frozen? ⟨w.heap.size + 1, 1, none⟩ = false := F2.fz _
  have g2 : w2.frozen? ⟨w.heap.size + 1, 2, none⟩ = false := F2.fz _
  go_wp2_with fail
  have FF := Fr.set (Fr.set (Fr.set F2 0 (.int .i64 0)) 1 (.int .i64 0)) 2 (.slice none 0 0)
  refine bodyPost_ret (by simp [results, Tryz.results96, go_sem, q0, q1, q2]; rfl) rfl ?_
  exact Hp.out _ _ ⟨by rw [He1.out], hbe.trans (FF.to_below (B := w.heap.size) (by omega))⟩
theorem termL_base {b t : Int} {l : List En} (h : lmay b t l = true) : termL b t l b = (0, t) := by
 have h1 := lmay_last h
 have h2 := (lmay_iff.1 h).1
 unfold termL
 rw [if_neg (by rw [h1]; omega), if_neg (by omega), if_pos rfl]
def LogOwn (W : World) (b t : Int) (n : Nat) (L : List Er) (e : Ending) (w' : World) : Prop :=
 ∃ A c L', e = .returned (.tuple #[.agg #[.int .i64 b, .int .i64 t, .slice A n c], .nilIface]) ∧ Rd w' (W.heap.size ≤ ·) 4 A n (flat ecell L') ∧ DatB w' W.heap.size L' ∧ L'.map en = L.map en ∧ (n ≤ c ∧ c ≤ maxLen) ∧ Below W.heap.size W w'
theorem comp_own (b t : Int) (A : Option Addr) (n c : Nat) (L : List Er) (w : World) (hr : Rd w T 4 A n (flat ecell L)) (hd : Dat w L) (hw : Wel L) (hs : ∀ x ∈ L, x.n ≤ 1000000) (hm : lmay b t (L.map en) = true) (hn : n ≤ 1000000) (hc : n ≤ c) (hcm : c ≤ maxLen) :
  Calls Tryz.prog 96 #[.agg #[.int .i64 b, .int .i64 t, .slice A n c], .int .i64 b] w (LogOwn w b t n L) := by
 have h := comp_any b t b A n c L w hr hd hw hs hm hn hc hcm
 rw [termL_base hm] at h
 refine h.mono ?_
 intro e w' hp
 unfold CompPost at hp
 rw [if_pos rfl] at hp
 obtain ⟨A', c', L', m, e1, h1, h2, h3, h4, h5, h6, h7⟩ := hp
 obtain rfl : m = 0 := by omega
 exact ⟨A', c', L', e1, h3, h4, by simpa using h5, by simpa using h6, h7⟩
end Go.Proofs.YtmhaahcbmdhinaaGreatDoor
